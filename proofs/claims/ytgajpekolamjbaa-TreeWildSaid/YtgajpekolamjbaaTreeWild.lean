/- TreeWild: a view of any bytes answers within its bounds. -/
import Derived.Test.YtgajpekolamjbaaTzC
import Derived.Test.YtgajpekolamjbaaTxC
import Derived.Test.YtgajpekolamjbaaTxD
set_option linter.unusedVariables false
set_option linter.unusedSimpArgs false
namespace Go.Proofs.Ytgajpekolamjbaa
open Go Go.RowKit Go.Tk
theorem wf_i64T {z : Int} (h : (Lit.int .i64 z).wf = true) : -9223372036854775808 ≤ z ∧ z ≤ 9223372036854775807 := by
  simp [Lit.wf, IntKind.min, IntKind.max, IntKind.bits, IntKind.signed] at h
  omega
set_option maxRecDepth 100000 in
set_option maxHeartbeats 8000000 in
theorem twild_bytes (w : World) (a : Option Addr) (c : Nat) (bs : List UInt8) (h : SlI .u8 w a bs.length c (nums bs)) (hbl : bs.length ≤ 140737488351232) (a2 : Option Addr) (n2 c2 : Nat) (zs : List Int) (h2 : SlI .i64 w a2 n2 c2 zs) (hz : ∀ z ∈ zs, (Lit.int .i64 z).wf = true) (a3 : Option Addr) (n3 c3 : Nat) (L : List Qd) (h3 : SlQ w a3 n3 c3 L) :
    Calls Try.prog 8 #[.slice a bs.length c, .slice a2 n2 c2, .slice a3 n3 c3] w fun e w' => e = .returned (.bool true) ∧ Below w.heap.size w w' := by
  have hlen := fun w' h' => lent18_calls w' a bs.length c (nums bs) h' hbl
  have hn2b : n2 ≤ 9223372036854775807 := Nat.le_trans h2.le h2.max
  have hn3b : n3 ≤ 9223372036854775807 := Nat.le_trans h3.le h3.max
  have H := Lib.hid h
  have H2 := Lib.hid h2
  have H3 := Lib.hid h3
  have HLEN := Lib.hid hlen
  have HZ := Lib.hid hz
  have HLZ := Lib.hid h2.len
  have SZ := Lib.hid Try.sizeIds
  clear h h2 h3 hlen hz
  go_enter Try.func8, Try.ntmps8
  go_upto_region 4 with (first
    | (go_at_call 20; (with_reducible refine (works_calls _).mono ?_); rintro e w1 ⟨rfl, hb⟩; (have HB := Lib.hid hb); clear hb)
    | (go_at_call 15; (with_reducible refine (HLEN.out _ (H.out.keep HB.out)).mono ?_); rintro e w2 ⟨rfl, hf⟩; (have HF := Lib.hid hf); clear hf))
  have hb2 := HB.out.trans (HF.out.below.mono HB.out.size)
  have ho := HF.out.row
  generalize hgg : w1.heap.size = g0 at ho ⊢
  have hsl0 := own_slA ho (nums_len bs) hbl
  have hvw := tview_calls w2 (some ⟨g0, 0, none⟩) (bs.length + 2) bs hsl0 (fun h => by cases h) (fun x hx => by cases hx; exact ho.lt) (by omega)
  have HVW := Lib.hid hvw
  have HO := Lib.hid ho
  have HB2 := Lib.hid hb2
  clear hvw ho hb2 HB HF HLEN hgg hsl0
  by_cases he : (vwE bs).1 ≠ 0
  · have H9 := Lib.hid (HVW.out.mono fun e w3 hq => (show ∃ i, e = .returned (.tuple #[.pointer none, .iface 149 (.pointer (some ⟨i, 0, none⟩))]) ∧ Below w2.heap.size w2 w3 by
      obtain ⟨hb, hc⟩ := hq
      rcases hc with ⟨_, v, h1, h2⟩ | ⟨h, _⟩
      · obtain ⟨i, rfl⟩ := h2.some he
        exact ⟨i, h1, hb⟩
      · exact absurd h he))
    clear HVW he
    go_upto_region 5 with (go_at_call 17; (with_reducible refine H9.out.mono ?_); rintro e w3 ⟨i, rfl, hb⟩; (have HB3 := Lib.hid (HB2.out.trans (hb.mono HB2.out.size))); clear hb)
    go_wp2
    go_ret
    exact ⟨rfl, HB3.out⟩
  have he0 : (vwE bs).1 = 0 := by simpa using he
  have H9 := Lib.hid (HVW.out.mono fun e w3 hq => (show ∃ gd vp, e = .returned (.tuple #[.pointer (some ⟨gd, 0, none⟩), .nilIface]) ∧ TreeM w3 gd bs (some ⟨g0, 0, none⟩) (bs.length + 2) vp ∧ Below w2.heap.size w2 w3 by
      obtain ⟨hb, hc⟩ := hq
      rcases hc with ⟨h, _⟩ | ⟨_, gd, vp, _, h1, h2⟩
      · exact absurd he0 h
      · exact ⟨gd, vp, h1, h2, hb⟩))
  clear HVW he he0
  go_upto_region 5 with (go_at_call 17; (with_reducible refine H9.out.mono ?_); rintro e w3 ⟨gd, vp, rfl, hd, hb⟩; (have HB3 := Lib.hid (HB2.out.trans (hb.mono HB2.out.size))); (have HO3 := Lib.hid (HO.out.below hb HO.out.lt)); (have HD := Lib.hid hd); clear hb hd)
  clear H9
  have hN1 : tN bs 3 ≤ 1048576 := HD.out.nk (by omega)
  have hdl := tlen_calls HD.out
  have hewr := fun k => each_rise bs k
  have hmtr := fun p => match_rise bs p
  have hfdl := fun p => find_le bs p
  have hctl := fun p => count_le bs p
  have hfin := fun X (hX : Below w3.heap.size w3 X) q => tfind_calls (HD.out.below hX) q
  have hcnt := fun X (hX : Below w3.heap.size w3 X) q => tcount_calls X gd bs _ _ vp (HD.out.below hX) q
  have hwal := fun X (hX : Below w3.heap.size w3 X) i hi => twalked_calls X gd bs _ _ vp (HD.out.below hX) i hi 40 (by omega) _ rfl
  have hmat := fun X (hX : Below w3.heap.size w3 X) q => tmatched_calls X gd bs _ _ vp (HD.out.below hX) q 40 (by omega) _ rfl
  simp only [show ((40 : Nat) : Int) = 40 from rfl] at hwal hmat
  obtain ⟨N, hN⟩ : ∃ N, N = tN bs 3 := ⟨_, rfl⟩
  rw [← hN] at hN1 hdl
  simp only [← hN] at hewr hmtr hfdl hctl
  have HGW := Lib.hid (fun k hk => get_wild HD.out k hk)
  simp only [← hN] at HGW
  have HDL := Lib.hid hdl
  have HEW := Lib.hid hewr
  have HMR := Lib.hid hmtr
  have HFL := Lib.hid hfdl
  have HCL := Lib.hid hctl
  have HFIN := Lib.hid hfin
  have HCNT := Lib.hid hcnt
  have HWAL := Lib.hid hwal
  have HMAT := Lib.hid hmat
  have HS3 := Lib.hid (H.out.keep HB3.out)
  have HI3 := Lib.hid (H2.out.keep HB3.out)
  have HT3 := Lib.hid (H3.out.keep HB3.out)
  clear hewr hmtr hfdl hctl hfin hcnt hwal hmat hdl hN HD H H2 H3 HO HB2
  go_wp2_with (go_at_call 22; (with_reducible refine HDL.out.mono ?_); rintro e wz ⟨rfl, rfl⟩)
  clear HDL
  rename World => w3
  go_loopw [11] (fun iv wr => ∃ i : Nat, iv = .int .i64 (i : Nat) ∧ i ≤ n2 ∧ Below w3.heap.size w3 wr) (fun iv _ => n2 - (intOf iv).toNat)
  case atStart => exact ⟨0, rfl, Nat.zero_le _, Below.refl _ _⟩
  case round =>
    obtain ⟨i, rfl, hi, hb⟩ := hrel
    have HBR := Lib.hid hb
    clear hb
    by_cases hin : i < n2
    · obtain ⟨b, o, hab, hck⟩ := HI3.out.cell i hin
      subst hab
      have hck2 : wr.cell? ⟨b, o + i, none⟩ = some (.int .i64 (zs.getD i 0)) := (HBR.out.cell (p := ⟨b, o + i, none⟩) (block_lt_of_cell hck)).trans hck
      have hkm : zs.getD i 0 ∈ zs := by
        rw [List.getD_eq_getElem?_getD, List.getElem?_eq_getElem (by rw [HLZ.out]; exact hin)]
        exact List.getElem_mem _
      have hkw := wf_i64T (HZ.out _ hkm)
      have hle2 := HI3.out.le
      obtain ⟨k, hk⟩ : ∃ k, k = zs.getD i 0 := ⟨_, rfl⟩
      rw [← hk] at hck2 hkw
      obtain ⟨x0, x1, x2, x3, ok, hok, hget⟩ := HGW.out k hkw
      obtain ⟨R, hR⟩ : ∃ R, R = (eachT bs k).take 40 := ⟨_, rfl⟩
      have hrr : RisT N k.toNat R := by rw [hR]; exact (HEW.out k).take 40
      have hRl : R.length ≤ 40 := by rw [hR]; exact List.length_take_le _ _
      have q2 := fun X hX => HWAL.out X hX k hkw
      simp only [← hR] at q2
      have Q1 := Lib.hid hget
      have Q2 := Lib.hid q2
      have RR := Lib.hid hrr
      have HCK := Lib.hid hck2
      clear hget q2 hrr hR hkm hk hck
      go_upto_region 13 with (go_at_call 23; (with_reducible refine (Q1.out wr HBR.out).mono ?_); rintro e w5 ⟨rfl, hb⟩; (have HB5 := Lib.hid hb); clear hb)
      have hb6 : Below wr.heap.size wr (w5.alloc (.cells #[.int .i64 x0, .int .i64 x1, .int .i64 x2, .int .i64 x3] 24)) := HB5.out.alloc HB5.out.size _
      have r6 := heap_alloc_new w5 (.cells #[.int .i64 x0, .int .i64 x1, .int .i64 x2, .int .i64 x3] 24)
      generalize w5.alloc (.cells #[.int .i64 x0, .int .i64 x1, .int .i64 x2, .int .i64 x3] 24) = w6 at hb6 r6 ⊢
      generalize w5.heap.size = g6 at r6 ⊢
      have HB6 := Lib.hid hb6
      have HR6 := Lib.hid r6
      have hck6 : w6.cell? ⟨b, o + i, none⟩ = some (.int .i64 k) := (HB6.out.cell (p := ⟨b, o + i, none⟩) (block_lt_of_cell HCK.out)).trans HCK.out
      have HBX := Lib.hid (HBR.out.trans (hb6.mono HBR.out.size))
      clear hb6 r6 hck2
      go_upto_region 14 with (go_at_call 23; (with_reducible refine (Q1.out w6 HBX.out).mono ?_); rintro e w7 ⟨rfl, hb⟩; (have HB7 := Lib.hid hb); clear hb)
      have hb8 : Below w6.heap.size w6 (w7.alloc (.cells #[.int .i64 x0, .int .i64 x1, .int .i64 x2, .int .i64 x3] 24)) := HB7.out.alloc HB7.out.size _
      have r8 := heap_alloc_new w7 (.cells #[.int .i64 x0, .int .i64 x1, .int .i64 x2, .int .i64 x3] 24)
      generalize w7.alloc (.cells #[.int .i64 x0, .int .i64 x1, .int .i64 x2, .int .i64 x3] 24) = w8 at hb8 r8 ⊢
      generalize w7.heap.size = g8 at r8 ⊢
      have r68 := (hb8.block _ (Array.getElem?_eq_some_iff.1 HR6.out).1).trans HR6.out
      have k0 : w8.cell? ⟨g6, 0, none⟩ = some (.int .i64 x0) := cell_of_row w8 g6 0 _ _ _ r68
      have k1 : w8.cell? ⟨g6, 1, none⟩ = some (.int .i64 x1) := cell_of_row w8 g6 1 _ _ _ r68
      have k2 : w8.cell? ⟨g6, 2, none⟩ = some (.int .i64 x2) := cell_of_row w8 g6 2 _ _ _ r68
      have k3 : w8.cell? ⟨g6, 3, none⟩ = some (.int .i64 x3) := cell_of_row w8 g6 3 _ _ _ r68
      have j0 : w8.cell? ⟨g8, 0, none⟩ = some (.int .i64 x0) := cell_of_row w8 g8 0 _ _ _ r8
      have j1 : w8.cell? ⟨g8, 1, none⟩ = some (.int .i64 x1) := cell_of_row w8 g8 1 _ _ _ r8
      have j2 : w8.cell? ⟨g8, 2, none⟩ = some (.int .i64 x2) := cell_of_row w8 g8 2 _ _ _ r8
      have j3 : w8.cell? ⟨g8, 3, none⟩ = some (.int .i64 x3) := cell_of_row w8 g8 3 _ _ _ r8
      have hck8 : w8.cell? ⟨b, o + i, none⟩ = some (.int .i64 k) := (hb8.cell (p := ⟨b, o + i, none⟩) (block_lt_of_cell hck6)).trans hck6
      have HB8 := Lib.hid (HBX.out.trans (hb8.mono HBX.out.size))
      have heq : ∀ X, (binOp .neq 24 (.agg #[.int .i64 x0, .int .i64 x1, .int .i64 x2, .int .i64 x3]) (.agg #[.int .i64 x0, .int .i64 x1, .int .i64 x2, .int .i64 x3])).run Try.prog X = .ok (.bool false) X := fun X => by have := neqQ X ⟨x0, x1, x2, x3⟩ ⟨x0, x1, x2, x3⟩; rw [decide_eq_true rfl] at this; exact this
      clear hck6 hb8 r8 r68 HB6 HR6 HB7 HB5 HCK
      rcases hok with ⟨rfl, hk0, hk1⟩ | ⟨rfl, rfl, rfl, rfl, rfl⟩
      all_goals
        go_upto_region 17 with (go_at_call 26; (with_reducible refine (Q2.out w8 HB8.out).mono ?_); rintro e w9 ⟨v9, rfl, how, hb⟩; obtain ⟨ga, gc, rfl, hgc, hsn⟩ := SnAt.of how; (have HSN := Lib.hid hsn); (have hb10 := HB8.out.trans (hb.mono HB8.out.size)); (have HB9 := Lib.hid hb10); clear how hsn hb hb10)
        clear Q1 Q2
        have HRC := Lib.hid (trisen_calls w9 ga gc R k.toNat N HSN.out hgc RR.out (by omega) hN1 (max k 0) (.inr (by omega)))
        go_upto_region 18 with (go_at_call 33; (with_reducible refine HRC.out.mono ?_); rintro e w10 ⟨rfl, m, hm⟩; (have HM := Lib.hid hm); clear hm)
        go_wp2_with fail
        go_roundw
        case rel => exact ⟨i + 1, by go_num, by omega, by rw [HM.out]; exact below_drewN HB9.out _⟩
        case measure => simp [intOf]; omega
    · obtain rfl : i = n2 := by omega
      clear hin hi
      go_wp2
      go_loopw [19] (fun iv wq => ∃ i : Nat, iv = .int .i64 (i : Nat) ∧ i ≤ n3 ∧ Below w3.heap.size w3 wq) (fun iv _ => n3 - (intOf iv).toNat)
      case atStart => exact ⟨0, rfl, Nat.zero_le _, HBR.out⟩
      case round =>
        rename World => wq
        obtain ⟨i, rfl, hi, hb⟩ := hrel
        have HBQ := Lib.hid hb
        clear hb
        by_cases hin : i < n3
        · obtain ⟨b, o, hab, hcq⟩ := (HT3.out.keep HBQ.out).cell i hin
          subst hab
          obtain ⟨x, hx⟩ : ∃ x, x = L.getD i default := ⟨_, rfl⟩
          rw [← hx] at hcq
          have hlt3 := HT3.out.le
          have hmt3 := HT3.out.max
          obtain ⟨F, hF⟩ : ∃ F, F = (findT bs x).1 := ⟨_, rfl⟩
          obtain ⟨f, hf⟩ : ∃ f, f = (findT bs x).2 := ⟨_, rfl⟩
          obtain ⟨C, hC⟩ : ∃ C, C = countT bs x := ⟨_, rfl⟩
          obtain ⟨R, hR⟩ : ∃ R, R = (matchT bs x).take 40 := ⟨_, rfl⟩
          have hFl : F ≤ N := by rw [hF]; exact HFL.out x
          have hCl : C ≤ N := by rw [hC]; exact HCL.out x
          have hrr : RisT N 0 R := by rw [hR]; exact (HMR.out x).take 40
          have hag : ∀ y ∈ R, agK x (sqQ y) 4 = true := fun y hy => match_ag bs x y (List.mem_of_mem_take (by rw [← hR]; exact hy))
          have hRl : R.length ≤ 40 := by rw [hR]; exact List.length_take_le _ _
          have q1 := fun X hX => HFIN.out X hX x
          have q2 := fun X hX => HCNT.out X hX x
          have q3 := fun X hX => HMAT.out X hX x
          simp only [← hF, ← hf] at q1
          simp only [← hC] at q2
          simp only [← hR] at q3
          have q1' : ∀ X, Below w3.heap.size w3 X → Calls Try.prog 24 #[.pointer (some ⟨gd, 0, none⟩), .agg #[.int .i64 x.a, .int .i64 x.b, .int .i64 x.c, .int .i64 x.d]] X fun e w' => e = .returned (.tuple #[.int .i64 (F : Nat), .bool f]) ∧ Below X.heap.size X w' := q1
          have q2' : ∀ X, Below w3.heap.size w3 X → Calls Try.prog 31 #[.pointer (some ⟨gd, 0, none⟩), .agg #[.int .i64 x.a, .int .i64 x.b, .int .i64 x.c, .int .i64 x.d]] X fun e w' => e = .returned (.int .i64 (C : Nat)) ∧ Below X.heap.size X w' := q2
          have q3' : ∀ X, Below w3.heap.size w3 X → Calls Try.prog 29 #[.pointer (some ⟨gd, 0, none⟩), .agg #[.int .i64 x.a, .int .i64 x.b, .int .i64 x.c, .int .i64 x.d], .int .i64 40] X fun e w' => ∃ v, e = .returned (.tuple #[v, .bool true]) ∧ w'.ownsRow X.heap.size 69 5 v R.length (sqCs R) ∧ Below X.heap.size X w' := q3
          have Q1 := Lib.hid q1'
          have Q2 := Lib.hid q2'
          have Q3 := Lib.hid q3'
          have RR := Lib.hid hrr
          have HAG := Lib.hid hag
          have HQ := Lib.hid hcq
          clear q1 q2 q3 q1' q2' q3' hrr hag hR hF hf hC hx HBR
          have e1 : decide ((F : Int) < 0) = false := decide_eq_false (by omega)
          have e2 : decide ((N : Int) < (F : Int)) = false := decide_eq_false (by omega)
          have e2' : decide (N < F) = false := decide_eq_false (by omega)
          have e3 : decide ((C : Int) < 0) = false := decide_eq_false (by omega)
          have e4 : decide ((N : Int) < (C : Int)) = false := decide_eq_false (by omega)
          have e4' : decide (N < C) = false := decide_eq_false (by omega)
          have j0 : wq.cell? ⟨b, o + i * 4, none⟩ = some (.int .i64 x.a) := hcq 0 _ rfl
          have j1 : wq.cell? ⟨b, o + i * 4 + 1, none⟩ = some (.int .i64 x.b) := hcq 1 _ rfl
          have j2 : wq.cell? ⟨b, o + i * 4 + 2, none⟩ = some (.int .i64 x.c) := hcq 2 _ rfl
          have j3 : wq.cell? ⟨b, o + i * 4 + 3, none⟩ = some (.int .i64 x.d) := hcq 3 _ rfl
          go_upto_region 23 with (go_at_call 24; (with_reducible refine (Q1.out wq HBQ.out).mono ?_); rintro e w4 ⟨rfl, hb⟩; (have HB4 := Lib.hid (HBQ.out.trans (hb.mono HBQ.out.size))); (have HQ4 := Lib.hid (range_keep HQ.out hb)); clear hb)
          clear j0 j1 j2 j3 hcq HQ
          have j0 : w4.cell? ⟨b, o + i * 4, none⟩ = some (.int .i64 x.a) := HQ4.out 0 _ rfl
          have j1 : w4.cell? ⟨b, o + i * 4 + 1, none⟩ = some (.int .i64 x.b) := HQ4.out 1 _ rfl
          have j2 : w4.cell? ⟨b, o + i * 4 + 2, none⟩ = some (.int .i64 x.c) := HQ4.out 2 _ rfl
          have j3 : w4.cell? ⟨b, o + i * 4 + 3, none⟩ = some (.int .i64 x.d) := HQ4.out 3 _ rfl
          go_upto_region 24 with (go_at_call 24; (with_reducible refine (Q1.out w4 HB4.out).mono ?_); rintro e w5 ⟨rfl, hb⟩; (have HB5 := Lib.hid (HB4.out.trans (hb.mono HB4.out.size))); (have HQ5 := Lib.hid (range_keep HQ4.out hb)); clear hb)
          clear j0 j1 j2 j3 HQ4 HB4 Q1
          have j0 : w5.cell? ⟨b, o + i * 4, none⟩ = some (.int .i64 x.a) := HQ5.out 0 _ rfl
          have j1 : w5.cell? ⟨b, o + i * 4 + 1, none⟩ = some (.int .i64 x.b) := HQ5.out 1 _ rfl
          have j2 : w5.cell? ⟨b, o + i * 4 + 2, none⟩ = some (.int .i64 x.c) := HQ5.out 2 _ rfl
          have j3 : w5.cell? ⟨b, o + i * 4 + 3, none⟩ = some (.int .i64 x.d) := HQ5.out 3 _ rfl
          go_upto_region 25 with (go_at_call 31; (with_reducible refine (Q2.out w5 HB5.out).mono ?_); rintro e w6 ⟨rfl, hb⟩; (have HB6 := Lib.hid (HB5.out.trans (hb.mono HB5.out.size))); (have HQ6 := Lib.hid (range_keep HQ5.out hb)); clear hb)
          clear j0 j1 j2 j3 HQ5 HB5
          have j0 : w6.cell? ⟨b, o + i * 4, none⟩ = some (.int .i64 x.a) := HQ6.out 0 _ rfl
          have j1 : w6.cell? ⟨b, o + i * 4 + 1, none⟩ = some (.int .i64 x.b) := HQ6.out 1 _ rfl
          have j2 : w6.cell? ⟨b, o + i * 4 + 2, none⟩ = some (.int .i64 x.c) := HQ6.out 2 _ rfl
          have j3 : w6.cell? ⟨b, o + i * 4 + 3, none⟩ = some (.int .i64 x.d) := HQ6.out 3 _ rfl
          go_upto_region 26 with (go_at_call 29; (with_reducible refine (Q3.out w6 HB6.out).mono ?_); rintro e w7 ⟨v7, rfl, how, hb⟩; obtain ⟨ga, gc, rfl, hgc, hsn⟩ := SnAt.of how; (have HSN := Lib.hid hsn); (have HB7 := Lib.hid (HB6.out.trans (hb.mono HB6.out.size))); (have HQ7 := Lib.hid (range_keep HQ6.out hb)); clear how hsn hb)
          clear j0 j1 j2 j3 HQ6 HB6 Q3
          have j0 : w7.cell? ⟨b, o + i * 4, none⟩ = some (.int .i64 x.a) := HQ7.out 0 _ rfl
          have j1 : w7.cell? ⟨b, o + i * 4 + 1, none⟩ = some (.int .i64 x.b) := HQ7.out 1 _ rfl
          have j2 : w7.cell? ⟨b, o + i * 4 + 2, none⟩ = some (.int .i64 x.c) := HQ7.out 2 _ rfl
          have j3 : w7.cell? ⟨b, o + i * 4 + 3, none⟩ = some (.int .i64 x.d) := HQ7.out 3 _ rfl
          go_upto_region 28 with (first
            | (go_at_call 31; (with_reducible refine (Q2.out w7 HB7.out).mono ?_); rintro e w8 ⟨rfl, hb⟩; (have HB8 := Lib.hid (HB7.out.trans (hb.mono HB7.out.size))); (have HQ8 := Lib.hid (range_keep HQ7.out hb)); (have HSN8 := Lib.hid (HSN.out.keep hb)); clear hb)
            | (go_at_call 33; (with_reducible refine (trisen_calls w8 ga gc R 0 N HSN8.out hgc RR.out (by omega) hN1 0 (.inr rfl)).mono ?_); rintro e w9 ⟨rfl, m, hm⟩; (have HB9 := Lib.hid (show Below w3.heap.size w3 w9 by rw [hm]; exact below_drewN HB8.out _)); (have HQ9 := Lib.hid (show w9.rangeAt b (o + i * 4) (qcs x) by rw [hm]; exact HQ8.out)); (have HSN9 := Lib.hid (show SnAt w9 ga R by rw [hm]; exact HSN8.out)); clear hm))
          clear j0 j1 j2 j3 HQ7 HB7 Q2 HSN HB8 HQ8 HSN8 e1 e2 e2' e3 e4 e4'
          go_wp2_with fail
          go_loopw [27] (fun jv wj => ∃ j : Nat, jv = .int .i64 (j : Nat) ∧ j ≤ R.length ∧ Below w9.heap.size w9 wj) (fun jv _ => R.length - (intOf jv).toNat)
          case atStart => exact ⟨0, rfl, Nat.zero_le _, Below.refl _ _⟩
          case round =>
            rename World => wj
            obtain ⟨j, rfl, hj, hb⟩ := hrel
            have HBJ := Lib.hid hb
            have hzj := hb.size
            clear hb
            obtain ⟨nr, hnr⟩ : ∃ nr, nr = R.length := ⟨_, rfl⟩
            have HNR := Lib.hid hnr
            rw [← hnr] at hj hRl hgc ⊢
            clear hnr
            by_cases hjn : j < nr
            · have hjR : j < R.length := by have := HNR.out; omega
              obtain ⟨g, hga, _, hqr⟩ := (HSN9.out.keep HBJ.out) j hjR
              subst hga
              obtain ⟨y, hy⟩ : ∃ y, y = sqQ R[j] := ⟨_, rfl⟩
              rw [← hy] at hqr
              have hagy : agK x y 4 = true := by rw [hy]; exact HAG.out _ (List.getElem_mem hjR)
              have HY := Lib.hid hqr
              have HX := Lib.hid (range_keep HQ9.out HBJ.out)
              have HAY := Lib.hid hagy
              clear hy hqr hagy
              go_upto_region 31 with fail
              refine wp_region_quiet_all (fun w' => Below wj.heap.size wj w') (by kernel_rfl) (by kernel_rfl) (below_drewN (Below.refl _ _) 1) ?_
              refine WQ.h ?_
              refine wq_valD 201 (.slice (some ⟨b, o, none⟩) n3 c3) rfl rfl (fun w' h => by simp [go_sem]) ?_
              simp only [List.setIfInBounds_toArray, List.set_cons_succ, List.set_cons_zero]
              refine wq_valD 202 (.int .i64 (i : Nat)) rfl rfl (fun w' h => by simp [go_sem]) ?_
              simp only [List.setIfInBounds_toArray, List.set_cons_succ, List.set_cons_zero]
              refine wq_valD 203 (.pointer (some ⟨b, o + i * 4, none⟩)) rfl rfl (fun w' h => by simp [go_sem, hin]) ?_
              simp only [List.setIfInBounds_toArray, List.set_cons_succ, List.set_cons_zero]
              refine wq_midD 204 rfl rfl 24 (.tmp 203) rfl b (o + i * 4) (by simp [go_sem]) (qcs x) _ (fun w' h => range_keep HX.out h) Try.underlying24 rfl SZ.out ?_
              simp only [List.setIfInBounds_toArray, List.set_cons_succ, List.set_cons_zero]
              refine wq_valD 205 (.slice (some ⟨g, 0, none⟩) nr gc) rfl rfl (fun w' h => by simp [go_sem]) ?_
              simp only [List.setIfInBounds_toArray, List.set_cons_succ, List.set_cons_zero]
              refine wq_valD 206 (.int .i64 (j : Nat)) rfl rfl (fun w' h => by simp [go_sem]) ?_
              simp only [List.setIfInBounds_toArray, List.set_cons_succ, List.set_cons_zero]
              refine wq_valD 207 (.pointer (some ⟨g, j * 5, none⟩)) rfl rfl (fun w' h => by simp [go_sem, hjn]) ?_
              simp only [List.setIfInBounds_toArray, List.set_cons_succ, List.set_cons_zero]
              refine wq_valD 208 (.pointer (some ⟨g, j * 5 + 1, none⟩)) rfl rfl (fun w' h => by simp [go_sem]) ?_
              simp only [List.setIfInBounds_toArray, List.set_cons_succ, List.set_cons_zero]
              refine wq_midD 209 rfl rfl 24 (.tmp 208) rfl g (j * 5 + 1) (by simp [go_sem]) (qcs y) _ (fun w' h => range_keep HY.out h) Try.underlying24 rfl SZ.out ?_
              simp only [List.setIfInBounds_toArray, List.set_cons_succ, List.set_cons_zero]
              refine wq_callD 210 (.bool true) 28 #[qv x, qv y] rfl rfl (fun w' => by simp [go_sem, qv, qcs]) (fun w' h => by have := agrees_calls w' x y; rw [HAY.out] at this; exact this.mono fun e w2 ⟨h1, h2⟩ => ⟨h1, h.trans (h2.mono h.size)⟩) ?_
              simp only [List.setIfInBounds_toArray, List.set_cons_succ, List.set_cons_zero]
              refine wq_valD 211 (.bool false) rfl rfl (fun w' h => by simp [go_sem]) ?_
              simp only [List.setIfInBounds_toArray, List.set_cons_succ, List.set_cons_zero]
              refine wq_nilD ?_
              intro w10 hb10
              have HB10 := Lib.hid (HBJ.out.trans (hb10.mono hzj))
              clear hb10
              go_wp2_with fail
              refine ⟨⟨j + 1, by go_num, by omega, HB10.out⟩, by simp [intOf]; omega⟩
            · go_wp2_with fail
              go_roundw
              case rel => exact ⟨i + 1, by go_num, by omega, HB9.out.trans (HBJ.out.mono HB9.out.size)⟩
              case measure => simp [intOf]; omega
        · have hbk := back18_calls wq g0 a bs.length c (nums bs) (HO3.out.below HBQ.out HO3.out.lt) (HS3.out.keep HBQ.out) hbl
          have HBK := Lib.hid hbk
          clear hbk
          go_wp2_with (go_at_call 19; (with_reducible refine HBK.out.mono ?_); rintro e w11 ⟨rfl, m, hm⟩; (have HM := Lib.hid hm); clear hm)
          go_ret
          exact ⟨rfl, by rw [HM.out]; exact below_drewN (HB3.out.trans (HBQ.out.mono HB3.out.size)) _⟩
theorem twild_go (w : World) (a : Option Addr) (n c : Nat) (z : List Int) (h : IsRow .u8 w a n c z) (hb : c * 1 ≤ 140737488351232) (a2 : Option Addr) (n2 c2 : Nat) (z2 : List Int) (h2 : IsRow .i64 w a2 n2 c2 z2) (hb2 : c2 * 8 ≤ 140737488351232)
    (a3 : Option Addr) (n3 c3 : Nat) (L : List Qd) (h3 : SlQ w a3 n3 c3 L) (hnil : a3 = none → c3 = 0) (ht : ∀ q ∈ L, QdOk q) (hc : c3 ≤ 4398046510976) :
    Calls Try.prog 8 #[.slice a n c, .slice a2 n2 c2, .slice a3 n3 c3] w fun e w' => e = .returned (.bool true) ∧ Below w.heap.size w w' := by
  obtain ⟨hsl, hnil, hwf⟩ := h.sl
  obtain ⟨hsl2, hnil2, hwf2⟩ := h2.sl
  obtain ⟨bs, hnum⟩ := bytes_of (zs := z.take n) (fun x hx => wf_u8 (hwf x hx))
  rw [← hnum] at hsl
  have hle := hsl.le
  have hbn : bs.length = n := by have := hsl.len; rwa [nums_len] at this
  subst hbn
  exact twild_bytes w a c bs hsl (by omega) a2 n2 c2 _ hsl2 hwf2 a3 n3 c3 L h3
end Go.Proofs.Ytgajpekolamjbaa
