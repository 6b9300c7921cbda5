/- RankWild: a view of any bytes answers within its bounds. -/
import Derived.Test.YtpphjiialgmidaaRkRf
import Derived.Test.YtpphjiialgmidaaRankWalks
set_option linter.unusedVariables false
set_option linter.unusedSimpArgs false
namespace Go.Tk
open Go Go.RowKit
def bytesW (zs : List Int) : List UInt8 := zs.map fun z => UInt8.ofNat z.toNat
theorem nums_bytesW {zs : List Int} (h : ∀ z ∈ zs, 0 ≤ z ∧ z < 256) : nums (bytesW zs) = zs := by
  unfold nums bytesW
  rw [List.map_map]
  conv => rhs; rw [← List.map_id zs]
  apply List.map_congr_left
  intro z hz
  have := h z hz
  simp
  omega
theorem rankV_le (bs : List UInt8) (n m : Nat) (hmn : m ≤ n) (i : Int) : rankV bs n m i ≤ n := by
  by_cases h : 0 ≤ i
  · have := rank_le bs n m hmn i h; omega
  · unfold rankV; rw [if_pos (.inl (by omega))]; omega
theorem selV_bd (cf : Nat → Int) (n : Nat) (k most : Int) (hm : most ≤ n) : -1 ≤ selV cf n k most ∧ selV cf n k most < n := by
  unfold selV
  split
  · omega
  · have := srch_bd cf k n 0 (n - 1) (by omega)
    omega
theorem range_pw (i k : Nat) : (List.range' i k).Pairwise (· < ·) := List.pairwise_lt_range'
theorem each_sort (f : Nat → Bool) (N i : Nat) : (eachL f N i).Pairwise (· < ·) := (range_pw _ _).filter _
end Go.Tk
namespace Go.Proofs.Ytpphjiialgmidaa
open Go.RowKit Go.Tk
theorem hz_at {w : World} {a : Option Addr} {n c : Nat} {zs : List Int} (h : SlI .i64 w a n c zs) (i : Nat) (hi : i < n) : ∃ b o, a = some ⟨b, o, none⟩ ∧ w.cell? ⟨b, o + i, none⟩ = some (.int .i64 (zs.getD i 0)) := h.cell i hi
set_option maxRecDepth 100000 in
set_option maxHeartbeats 8000000 in
theorem wild_bytes (w : World) (a : Option Addr) (c : Nat) (bs : List UInt8) (h : SlI .u8 w a bs.length c (nums bs)) (hbl : bs.length ≤ 140737488351232) (a2 : Option Addr) (n2 c2 : Nat) (zs : List Int) (h2 : SlI .i64 w a2 n2 c2 zs) (hz : ∀ z ∈ zs, (Lit.int .i64 z).wf = true) :
    Calls Try.prog 10 #[.slice a bs.length c, .slice a2 n2 c2] w fun e w' => e = .returned (.bool true) ∧ Below w.heap.size w w' := by
  have hlen := fun w' h' => lent_calls w' a bs.length c (nums bs) h' hbl
  have H := Lib.hid h
  have H2 := Lib.hid h2
  have HLEN := Lib.hid hlen
  have HZ := Lib.hid hz
  have hn2b : n2 ≤ 9223372036854775807 := Nat.le_trans h2.le h2.max
  have hlz := h2.len
  have HLZ := Lib.hid hlz
  clear h h2 hlen hz hlz
  go_enter Try.func10, Try.ntmps10
  go_upto_region 4 with (first
    | (go_at_call 24; (with_reducible refine (works_calls _).mono ?_); rintro e w1 ⟨rfl, hb⟩; (have HB := Lib.hid hb); clear hb)
    | (go_at_call 13; (with_reducible refine (HLEN.out _ (H.out.keep HB.out)).mono ?_); rintro e w2 ⟨rfl, hf⟩; (have HF := Lib.hid hf); clear hf))
  have hb2 := HB.out.trans (HF.out.below.mono HB.out.size)
  have ho := HF.out.row
  have hg0 := HB.out.size
  generalize hgg : w1.heap.size = g0 at ho hg0 ⊢
  have hvw := view_any w2 (some ⟨g0, 0, none⟩) (bs.length + 2) bs (own_sl ho (by rw [nums_len]) hbl)
  have HVW := Lib.hid hvw
  have HO := Lib.hid ho
  have HB2 := Lib.hid hb2
  clear hvw ho hb2 HB HF HLEN hgg
  by_cases he : (fV bs).2 ≠ 0
  · go_upto_region 5 with (go_at_call 22; (with_reducible refine HVW.out.mono ?_); rintro e w3 ⟨p, v, rfl, hev, hb, hc⟩; (have HEV := Lib.hid hev); (have HB3 := Lib.hid (HB2.out.trans (hb.mono HB2.out.size))); (have HC := Lib.hid hc); clear hev hb hc)
    obtain ⟨i, rfl⟩ := HEV.out.some (show ((fV bs).2 : Int) ≠ 0 by omega)
    obtain rfl : p = none := by
      rcases HC.out with ⟨_, h⟩ | ⟨h, _⟩
      · exact h
      · exact absurd h he
    clear HEV HC HVW he
    go_wp2
    go_ret
    exact ⟨rfl, HB3.out⟩
  have he0 : (fV bs).2 = 0 := by simpa using he
  have hsh : (shF bs).2 = 0 := by
    by_cases h : (shF bs).2 ≠ 0
    · exfalso; unfold fV at he0; rw [if_pos h] at he0; exact h he0
    · simpa using h
  obtain ⟨h8, hN, hm, hE, _⟩ := shF_ok hsh
  have hE8 : 8 + (f4 bs 0 + 7) / 8 ≤ bs.length := by unfold oE oM oS oG at hE; omega
  have hnum := fun w' h' => numbers_calls w' a c bs h' h8
  have hdat := fun w' h' => rdata_calls w' a c bs h' hN hE8
  have hdbt := fun i hi => da_bt bs (f4 bs 0) i hi
  have hdl := da_len bs (f4 bs 0) hE8
  obtain ⟨d, hd⟩ : ∃ d, d = daB bs (f4 bs 0) := ⟨_, rfl⟩
  rw [← hd] at hdbt hdl
  simp only [← hd] at hdat
  go_upto_region 5 with (go_at_call 22; (with_reducible refine HVW.out.mono ?_); rintro e w3 ⟨p, v, rfl, hev, hb, hc⟩; (have HEV := Lib.hid hev); (have HB3 := Lib.hid (HB2.out.trans (hb.mono HB2.out.size))); (have HO3 := Lib.hid (HO.out.below hb HO.out.lt)); (have HC := Lib.hid hc); clear hev hb hc)
  have hev := HEV.out
  rw [he0] at hev
  obtain rfl := hev.none
  obtain ⟨gv, rfl, hv⟩ : ∃ gv, p = some ⟨gv, 0, none⟩ ∧ VecAt w3 gv (some ⟨g0, 0, none⟩) (bs.length + 2) bs (f4 bs 0) (f4 bs 4) := by
    rcases HC.out with ⟨h, _⟩ | ⟨_, h⟩
    · exact absurd he0 h
    · exact h
  obtain ⟨N, hNN⟩ : ∃ N, N = f4 bs 0 := ⟨_, rfl⟩
  obtain ⟨m, hmm⟩ : ∃ m, m = f4 bs 4 := ⟨_, rfl⟩
  rw [← hNN] at hv hN hm hdbt hdl
  rw [← hmm] at hv hm
  simp only [← hNN] at hdat hnum
  simp only [← hmm] at hnum
  have hs3 := H.out.keep HB3.out
  have hz3 := H2.out.keep HB3.out
  have HNUM := Lib.hid (fun w' => drew_ex (w0 := w3) (w := w') (fun q => hnum _ (hs3.drewN q)))
  have HDAT := Lib.hid hdat
  have HV3 := Lib.hid hv
  have HS3 := Lib.hid hs3
  have HZ3 := Lib.hid hz3
  have HDBT := Lib.hid hdbt
  have HDL := Lib.hid hdl
  have HDW : ∃ k, w3 = w3.drewN k := ⟨0, rfl⟩
  clear hev HEV HC HVW he hsh hE8 hE hd hnum hdat hdbt hdl hNN hmm hs3 hz3 he0 HB2 HO H H2
  have HL1 := Lib.hid (fun w' => drew_ex (w := w') (fun n => (len_calls (hv.drewN n)).mono fun e w'' ⟨h1, h2⟩ => (show _ ∧ ∃ k, w'' = (w3.drewN n).drewN k from ⟨h1, 0, h2.symm⟩)))
  have HL2 := Lib.hid (fun w' => drew_ex (w := w') (fun n => (ones_calls (hv.drewN n)).mono fun e w'' ⟨h1, h2⟩ => (show _ ∧ ∃ k, w'' = (w3.drewN n).drewN k from ⟨h1, 0, h2.symm⟩)))
  clear hv
  go_upto_region 8 with (go_at_call 34; (with_reducible refine (HNUM.out _ HDW).mono ?_); rintro e wz ⟨rfl, hd⟩; (have HDW := hd); clear hd)
  have hdz : ∃ k, wz = w3.drewN k := HDW
  have hdc : Calls Try.prog 35 #[.slice a bs.length c] wz fun e w' => ∃ ad cd, e = .returned (.slice ad ((N + 7) / 8) cd) ∧ SlI .u8 w3 ad ((N + 7) / 8) cd (nums d) ∧ ∃ q, w' = w3.drewN q := by
    obtain ⟨k, rfl⟩ := HDW
    exact (HDAT.out _ (HS3.out.drewN k)).mono fun e w' ⟨ad, cd, e1, e2, q, e3⟩ => ⟨ad, cd, e1, ⟨e2.len, e2.le, e2.max, e2.cell⟩, k + q, by rw [e3]; simp [World.drewN, Nat.add_assoc]⟩
  have HDC := Lib.hid hdc
  clear hdc hdz HDAT HNUM
  go_upto_region 9 with (go_at_call 35; (with_reducible refine HDC.out.mono ?_); rintro e wy ⟨ad, cd, rfl, hsd, hd⟩; (have HSD := Lib.hid hsd); clear hsd HDW; (have HDW := hd); clear hd)
  clear HDC
  go_wp2_with (first
    | (go_at_call 26; (with_reducible refine (HL1.out _ HDW).mono ?_); rintro e wz ⟨rfl, hd⟩; (have HDW := hd); clear hd)
    | (go_at_call 32; (with_reducible refine (HL2.out _ HDW).mono ?_); rintro e wz ⟨rfl, hd⟩; (have HDW := hd); clear hd))
  clear HL1 HL2
  go_loopw [11] (fun iv wr => ∃ i : Nat, iv = .int .i64 (i : Nat) ∧ i ≤ n2 ∧ Below w3.heap.size w3 wr) (fun iv _ => n2 - (intOf iv).toNat)
  case atStart => exact ⟨0, rfl, Nat.zero_le _, by obtain ⟨k, rfl⟩ := HDW; exact below_drewN (Below.refl _ _) k⟩
  case round =>
    obtain ⟨i, rfl, hi, hb⟩ := hrel
    have HBR := Lib.hid hb
    clear hb HDW
    by_cases hin : i < n2
    · have hk3 := hz_at HZ3.out i hin
      obtain ⟨b, o, rfl, hck⟩ := hk3
      have hck2 : wr.cell? ⟨b, o + i, none⟩ = some (.int .i64 (zs.getD i 0)) := (HBR.out.cell (p := ⟨b, o + i, none⟩) (block_lt_of_cell hck)).trans hck
      have hkm : zs.getD i 0 ∈ zs := by
        rw [List.getD_eq_getElem?_getD, List.getElem?_eq_getElem (by rw [HLZ.out]; exact hin)]
        exact List.getElem_mem _
      have hkw := wf_i64 (HZ.out _ hkm)
      have hle2 := HZ3.out.le
      obtain ⟨k, hk⟩ : ∃ k, k = zs.getD i 0 := ⟨_, rfl⟩
      rw [← hk] at hck2 hkw
      have hv := HV3.out.below HBR.out
      have hr := rankV_le bs N m hm k
      have hz0 := rank0_bd bs N m hm k
      have hse := selV_bd (fun j => (rankV bs N m (j : Nat) : Nat)) N k m (by omega)
      have hs0 := selV_bd (fun j => rank0V bs N m (j : Nat)) N k ((N : Int) - (m : Int)) (by omega)
      have q1 := fun w' => drew_ex (w0 := wr) (w := w') (fun q => rank_calls (hv.drewN q) k hkw)
      have q2 := fun w' => drew_ex (w0 := wr) (w := w') (fun q => rank0_calls (hv.drewN q) k hkw)
      have q3 := fun w' => drew_ex (w0 := wr) (w := w') (fun q => select_calls (hv.drewN q) k hkw)
      have q4 := fun w' => drew_ex (w0 := wr) (w := w') (fun q => select0_calls (hv.drewN q) k hkw)
      have q5 := fun w' => drew_ex (w0 := wr) (w := w') (fun q => vbit_calls (hv.drewN q) k hkw)
      obtain ⟨r, hrr⟩ : ∃ r, r = rankV bs N m k := ⟨_, rfl⟩
      obtain ⟨z, hzz⟩ : ∃ z, z = rank0V bs N m k := ⟨_, rfl⟩
      obtain ⟨s, hss⟩ : ∃ s, s = selV (fun j => (rankV bs N m (j : Nat) : Nat)) N k m := ⟨_, rfl⟩
      obtain ⟨t, htt⟩ : ∃ t, t = selV (fun j => rank0V bs N m (j : Nat)) N k ((N : Int) - (m : Int)) := ⟨_, rfl⟩
      rw [← hrr] at hr
      rw [← hzz] at hz0
      rw [← hss] at hse
      rw [← htt] at hs0
      simp only [← hrr] at q1
      simp only [← hzz] at q2
      simp only [← hss] at q3
      simp only [← htt] at q4
      obtain ⟨L, hL⟩ : ∃ L, L = eachL (btB (datB bs)) N k.toNat := ⟨_, rfl⟩
      have hLs : L.Pairwise (· < ·) := by rw [hL]; exact each_sort _ _ _
      have hLm : ∀ x, x ∈ L → k.toNat ≤ x ∧ x < N := fun x hx => by rw [hL, each_mem] at hx; exact ⟨hx.1, hx.2.1⟩
      have hwk := fun q => walked_calls (wr.drewN q) gv _ _ bs N m (hv.drewN q) k hkw 50 (by omega) L hL
      simp only [show ((50 : Nat) : Int) = 50 from rfl] at hwk
      obtain ⟨R, hR⟩ : ∃ R, R = L.take 50 := ⟨_, rfl⟩
      simp only [← hR] at hwk
      have hRs : R.Pairwise (· < ·) := by rw [hR]; exact hLs.sublist (List.take_sublist _ _)
      have hRm : ∀ x, x ∈ R → k.toNat ≤ x ∧ x < N := fun x hx => hLm x (by rw [hR] at hx; exact List.mem_of_mem_take hx)
      have hRl : R.length ≤ 50 := by rw [hR]; exact List.length_take_le _ _
      have hbit : ∀ j : Nat, k = j → (j : Int) < N → ∀ w', (∃ q, w' = wr.drewN q) → Calls Try.prog 36 #[.slice ad ((N + 7) / 8) cd, .int .i64 k] w' fun e w'' => e = .returned (.bool (btB (datB bs) j)) ∧ ∃ q, w'' = wr.drewN q := by
        rintro j hj hjn w' ⟨q, rfl⟩
        have hsd := (HSD.out.keep HBR.out).drewN q
        have := bit_calls (wr.drewN q) ad _ cd d j hsd (by rw [HDL.out]; omega) (by omega)
        rw [HDBT.out j (by omega), ← hj] at this
        exact this.mono fun e w'' ⟨h1, h2⟩ => ⟨h1, q, h2.symm⟩
      have Q1 := Lib.hid q1
      have Q2 := Lib.hid q2
      have Q3 := Lib.hid q3
      have Q4 := Lib.hid q4
      have Q5 := Lib.hid q5
      have HWK := Lib.hid hwk
      have HRS := Lib.hid hRs
      have HRM := Lib.hid hRm
      have HBIT := Lib.hid hbit
      have HDW : ∃ q, wr = wr.drewN q := ⟨0, rfl⟩
      clear q1 q2 q3 q4 q5 hwk hRs hRm hbit hLs hLm hL hR hrr hzz hss htt hv hkm hk hck
      go_upto_region 19 with (first
        | (go_at_call 27; (with_reducible refine (Q1.out _ HDW).mono ?_); rintro e wz ⟨rfl, hd⟩; (have HDW := hd); clear hd)
        | (go_at_call 28; (with_reducible refine (Q2.out _ HDW).mono ?_); rintro e wz ⟨rfl, hd⟩; (have HDW := hd); clear hd)
        | (go_at_call 30; (with_reducible refine (Q3.out _ HDW).mono ?_); rintro e wz ⟨rfl, hd⟩; (have HDW := hd); clear hd)
        | (go_at_call 31; (with_reducible refine (Q4.out _ HDW).mono ?_); rintro e wz ⟨rfl, hd⟩; (have HDW := hd); clear hd))
      obtain ⟨B, hB, hB2⟩ : ∃ B : Bool, (decide (0 ≤ k) && decide (k < N) && btB (datB bs) k.toNat) = B ∧ ((k < 0 ∧ B = false) ∨ (0 ≤ k ∧ (N : Int) ≤ k ∧ B = false) ∨ (0 ≤ k ∧ k < N ∧ ∀ w', (∃ q, w' = wr.drewN q) → Calls Try.prog 36 #[.slice ad ((N + 7) / 8) cd, .int .i64 k] w' fun e w'' => e = .returned (.bool B) ∧ ∃ q, w'' = wr.drewN q)) := by
        refine ⟨_, rfl, ?_⟩
        by_cases h0 : k < 0
        · exact .inl ⟨h0, by rw [decide_eq_false (show ¬ 0 ≤ k by omega)]; rfl⟩
        by_cases h1 : (N : Int) ≤ k
        · exact .inr (.inl ⟨by omega, h1, by rw [decide_eq_false (show ¬ k < N by omega)]; simp⟩)
        · refine .inr (.inr ⟨by omega, by omega, ?_⟩)
          rw [decide_eq_true (show 0 ≤ k by omega), decide_eq_true (show k < N by omega)]
          exact HBIT.out k.toNat (by omega) (by omega)
      have Q6 := Lib.hid (show ∀ w', (∃ q, w' = wr.drewN q) → Calls Try.prog 29 #[.pointer (some ⟨gv, 0, none⟩), .int .i64 k] w' fun e w'' => e = .returned (.bool B) ∧ ∃ q, w'' = wr.drewN q by rw [← hB]; exact Q5.out)
      clear Q5 HBIT hB
      rcases hB2 with ⟨e1, rfl⟩ | ⟨e1, e2, rfl⟩ | ⟨e1, e2, e3⟩
      · go_upto_region 23 with (first
          | (go_at_call 27; (with_reducible refine (Q1.out _ HDW).mono ?_); rintro e wz ⟨rfl, hd⟩; (have HDW := hd); clear hd)
          | (go_at_call 28; (with_reducible refine (Q2.out _ HDW).mono ?_); rintro e wz ⟨rfl, hd⟩; (have HDW := hd); clear hd)
          | (go_at_call 30; (with_reducible refine (Q3.out _ HDW).mono ?_); rintro e wz ⟨rfl, hd⟩; (have HDW := hd); clear hd)
          | (go_at_call 31; (with_reducible refine (Q4.out _ HDW).mono ?_); rintro e wz ⟨rfl, hd⟩; (have HDW := hd); clear hd)
          | (go_at_call 29; (with_reducible refine (Q6.out _ HDW).mono ?_); rintro e wz ⟨rfl, hd⟩; (have HDW := hd); clear hd))
        obtain ⟨q9, rfl⟩ := HDW
        go_upto_region 24 with (go_at_call 33; (with_reducible refine (HWK.out _).mono ?_); rintro e w5 ⟨v, rfl, hrow, hb⟩; (obtain ⟨ar, cr, rfl, hsl⟩ := walked_rows hrow); (have HSL := Lib.hid hsl); (have HB5 := Lib.hid ((below_drewN HBR.out q9).trans (hb.mono HBR.out.size))); clear hrow hb hsl)
        clear Q1 Q2 Q3 Q4 Q6 HWK HBR hck2
        have hk0 : ¬ 0 < k := by omega
        all_goals
          go_wp2_with fail
          go_loop [19, 20] (fun lv jv => ∃ (j : Nat) (x : Int), jv = .int .i64 (j : Nat) ∧ j ≤ R.length ∧ lv = .int .i64 x ∧ ∀ h : j < R.length, x < (R[j] : Int)) (fun _ jv => R.length - (intOf jv).toNat)
          case atStart => exact ⟨0, _, rfl, Nat.zero_le _, rfl, fun h => by have := HRM.out _ (List.getElem_mem h); omega⟩
          case round =>
            obtain ⟨j, x, rfl, hj, rfl, hx⟩ := hrel
            have HX := Lib.hid hx
            clear hx
            by_cases hjR : j < R.length
            · obtain ⟨b9, o9, rfl, hc9⟩ := HSL.out.cell j hjR
              have hz9 : (intZs R).getD j 0 = (R[j] : Int) := by
                unfold intZs
                rw [List.getD_eq_getElem?_getD, List.getElem?_map, List.getElem?_eq_getElem hjR]; rfl
              rw [hz9] at hc9
              have hx9 := HX.out hjR
              have hm9 := (HRM.out _ (List.getElem_mem hjR)).2
              have hnx : ∀ h : j + 1 < R.length, ((R[j] : Nat) : Int) < (R[j + 1] : Int) := fun h => by
                have := List.pairwise_iff_getElem.1 HRS.out j (j + 1) hjR h (by omega)
                omega
              have hle9 := HSL.out.le
              obtain ⟨y, hy⟩ : ∃ y, y = R[j] := ⟨_, rfl⟩
              rw [← hy] at hc9 hx9 hm9
              have HNX := Lib.hid (show ∀ h : j + 1 < R.length, (y : Int) < (R[j + 1] : Int) by rw [hy]; exact hnx)
              clear hz9 hnx hy
              go_wp2_with fail
              first
                | done
                | (go_round
                   case rel => exact ⟨j + 1, _, by go_num, by omega, rfl, HNX.out⟩
                   case measure => simp [intOf]; omega)
            · obtain rfl : j = R.length := by omega
              go_wp2_with fail
              go_roundw
              case rel => exact ⟨i + 1, by go_num, by omega, HB5.out⟩
              case measure => simp [intOf]; omega
      · go_upto_region 23 with (first
          | (go_at_call 27; (with_reducible refine (Q1.out _ HDW).mono ?_); rintro e wz ⟨rfl, hd⟩; (have HDW := hd); clear hd)
          | (go_at_call 28; (with_reducible refine (Q2.out _ HDW).mono ?_); rintro e wz ⟨rfl, hd⟩; (have HDW := hd); clear hd)
          | (go_at_call 30; (with_reducible refine (Q3.out _ HDW).mono ?_); rintro e wz ⟨rfl, hd⟩; (have HDW := hd); clear hd)
          | (go_at_call 31; (with_reducible refine (Q4.out _ HDW).mono ?_); rintro e wz ⟨rfl, hd⟩; (have HDW := hd); clear hd)
          | (go_at_call 29; (with_reducible refine (Q6.out _ HDW).mono ?_); rintro e wz ⟨rfl, hd⟩; (have HDW := hd); clear hd))
        obtain ⟨q9, rfl⟩ := HDW
        go_upto_region 24 with (go_at_call 33; (with_reducible refine (HWK.out _).mono ?_); rintro e w5 ⟨v, rfl, hrow, hb⟩; (obtain ⟨ar, cr, rfl, hsl⟩ := walked_rows hrow); (have HSL := Lib.hid hsl); (have HB5 := Lib.hid ((below_drewN HBR.out q9).trans (hb.mono HBR.out.size))); clear hrow hb hsl)
        clear Q1 Q2 Q3 Q4 Q6 HWK HBR hck2
        by_cases hk0 : 0 < k
        all_goals
          go_wp2_with fail
          go_loop [19, 20] (fun lv jv => ∃ (j : Nat) (x : Int), jv = .int .i64 (j : Nat) ∧ j ≤ R.length ∧ lv = .int .i64 x ∧ ∀ h : j < R.length, x < (R[j] : Int)) (fun _ jv => R.length - (intOf jv).toNat)
          case atStart => exact ⟨0, _, rfl, Nat.zero_le _, rfl, fun h => by have := HRM.out _ (List.getElem_mem h); omega⟩
          case round =>
            obtain ⟨j, x, rfl, hj, rfl, hx⟩ := hrel
            have HX := Lib.hid hx
            clear hx
            by_cases hjR : j < R.length
            · obtain ⟨b9, o9, rfl, hc9⟩ := HSL.out.cell j hjR
              have hz9 : (intZs R).getD j 0 = (R[j] : Int) := by
                unfold intZs
                rw [List.getD_eq_getElem?_getD, List.getElem?_map, List.getElem?_eq_getElem hjR]; rfl
              rw [hz9] at hc9
              have hx9 := HX.out hjR
              have hm9 := (HRM.out _ (List.getElem_mem hjR)).2
              have hnx : ∀ h : j + 1 < R.length, ((R[j] : Nat) : Int) < (R[j + 1] : Int) := fun h => by
                have := List.pairwise_iff_getElem.1 HRS.out j (j + 1) hjR h (by omega)
                omega
              have hle9 := HSL.out.le
              obtain ⟨y, hy⟩ : ∃ y, y = R[j] := ⟨_, rfl⟩
              rw [← hy] at hc9 hx9 hm9
              have HNX := Lib.hid (show ∀ h : j + 1 < R.length, (y : Int) < (R[j + 1] : Int) by rw [hy]; exact hnx)
              clear hz9 hnx hy
              go_wp2_with fail
              first
                | done
                | (go_round
                   case rel => exact ⟨j + 1, _, by go_num, by omega, rfl, HNX.out⟩
                   case measure => simp [intOf]; omega)
            · obtain rfl : j = R.length := by omega
              go_wp2_with fail
              go_roundw
              case rel => exact ⟨i + 1, by go_num, by omega, HB5.out⟩
              case measure => simp [intOf]; omega
      · have E3 := Lib.hid e3
        clear e3
        go_upto_region 23 with (first
          | (go_at_call 27; (with_reducible refine (Q1.out _ HDW).mono ?_); rintro e wz ⟨rfl, hd⟩; (have HDW := hd); clear hd)
          | (go_at_call 28; (with_reducible refine (Q2.out _ HDW).mono ?_); rintro e wz ⟨rfl, hd⟩; (have HDW := hd); clear hd)
          | (go_at_call 30; (with_reducible refine (Q3.out _ HDW).mono ?_); rintro e wz ⟨rfl, hd⟩; (have HDW := hd); clear hd)
          | (go_at_call 31; (with_reducible refine (Q4.out _ HDW).mono ?_); rintro e wz ⟨rfl, hd⟩; (have HDW := hd); clear hd)
          | (go_at_call 29; (with_reducible refine (Q6.out _ HDW).mono ?_); rintro e wz ⟨rfl, hd⟩; (have HDW := hd); clear hd)
          | (go_at_call 36; (with_reducible refine (E3.out _ HDW).mono ?_); rintro e wz ⟨rfl, hd⟩; (have HDW := hd); clear hd))
        obtain ⟨q9, rfl⟩ := HDW
        go_upto_region 24 with (go_at_call 33; (with_reducible refine (HWK.out _).mono ?_); rintro e w5 ⟨v, rfl, hrow, hb⟩; (obtain ⟨ar, cr, rfl, hsl⟩ := walked_rows hrow); (have HSL := Lib.hid hsl); (have HB5 := Lib.hid ((below_drewN HBR.out q9).trans (hb.mono HBR.out.size))); clear hrow hb hsl)
        clear Q1 Q2 Q3 Q4 Q6 HWK HBR hck2
        by_cases hk0 : 0 < k
        all_goals
          go_wp2_with fail
          go_loop [19, 20] (fun lv jv => ∃ (j : Nat) (x : Int), jv = .int .i64 (j : Nat) ∧ j ≤ R.length ∧ lv = .int .i64 x ∧ ∀ h : j < R.length, x < (R[j] : Int)) (fun _ jv => R.length - (intOf jv).toNat)
          case atStart => exact ⟨0, _, rfl, Nat.zero_le _, rfl, fun h => by have := HRM.out _ (List.getElem_mem h); omega⟩
          case round =>
            obtain ⟨j, x, rfl, hj, rfl, hx⟩ := hrel
            have HX := Lib.hid hx
            clear hx
            by_cases hjR : j < R.length
            · obtain ⟨b9, o9, rfl, hc9⟩ := HSL.out.cell j hjR
              have hz9 : (intZs R).getD j 0 = (R[j] : Int) := by
                unfold intZs
                rw [List.getD_eq_getElem?_getD, List.getElem?_map, List.getElem?_eq_getElem hjR]; rfl
              rw [hz9] at hc9
              have hx9 := HX.out hjR
              have hm9 := (HRM.out _ (List.getElem_mem hjR)).2
              have hnx : ∀ h : j + 1 < R.length, ((R[j] : Nat) : Int) < (R[j + 1] : Int) := fun h => by
                have := List.pairwise_iff_getElem.1 HRS.out j (j + 1) hjR h (by omega)
                omega
              have hle9 := HSL.out.le
              obtain ⟨y, hy⟩ : ∃ y, y = R[j] := ⟨_, rfl⟩
              rw [← hy] at hc9 hx9 hm9
              have HNX := Lib.hid (show ∀ h : j + 1 < R.length, (y : Int) < (R[j + 1] : Int) by rw [hy]; exact hnx)
              clear hz9 hnx hy
              go_wp2_with fail
              first
                | done
                | (go_round
                   case rel => exact ⟨j + 1, _, by go_num, by omega, rfl, HNX.out⟩
                   case measure => simp [intOf]; omega)
            · obtain rfl : j = R.length := by omega
              go_wp2_with fail
              go_roundw
              case rel => exact ⟨i + 1, by go_num, by omega, HB5.out⟩
              case measure => simp [intOf]; omega
    · obtain rfl : i = n2 := by omega
      have hbk := back_calls wr g0 a bs.length c (nums bs) (HO3.out.below HBR.out HO3.out.lt) (HS3.out.keep HBR.out) hbl
      have HBK := Lib.hid hbk
      clear hbk
      go_wp2_with (go_at_call 18; (with_reducible refine HBK.out.mono ?_); rintro e w9 ⟨rfl, q, rfl⟩)
      go_ret
      exact ⟨rfl, below_drewN (HB3.out.trans (HBR.out.mono HB3.out.size)) q⟩
end Go.Proofs.Ytpphjiialgmidaa
