/- RankWalks: Each goes through the selected places. -/
import Derived.Test.YtpphjiialgmidaaRkWk
import Derived.Test.YtpphjiialgmidaaRankInverse
set_option linter.unusedVariables false
set_option linter.unusedSimpArgs false
namespace Go.Tk
open Go Go.RowKit
theorem dat_bt (d : List UInt8) (N j : Nat) (h : j < 8 * d.length) : btB (datB (whB d N)) j = btB d j := by
  obtain ⟨t, ht⟩ := dat_wh d N
  rw [ht, bt_app d t j h]
theorem each_wh {d : List UInt8} {N : Nat} (hl : d.length = (N + 7) / 8) (i : Nat) : eachL (btB (datB (whB d N))) N i = eachL (btB d) N i :=
  each_congr (fun j _ hj => dat_bt d N j (by omega))
end Go.Tk
namespace Go.Proofs.Ytpphjiialgmidaa
open Go.RowKit Go.Tk
theorem walked_rows {w w' : World} {v : Value} {L : List Nat} (h : w'.ownsRow w.heap.size 3 1 v L.length (intCs L)) : ∃ a c, v = .slice a L.length c ∧ SlI .i64 w' a L.length c (intZs L) := by
  have o1 : Ow .i64 3 w.heap.size w' v (intZs L) := by unfold Ow; rw [intZs_len, ← intCs_zs]; exact h
  obtain ⟨a, c, e, s, _⟩ := o1.sl
  rw [intZs_len] at e s
  exact ⟨a, c, e, s⟩
set_option maxRecDepth 100000 in
set_option maxHeartbeats 4000000 in
theorem walks_go (w : World) (a : Option Addr) (n c : Nat) (l : List Bool) (h : SlB w a n c l) (hc : c ≤ 140737488351232) (fr : Int) (hfr : (Lit.int .i64 fr).wf = true) (most : Int) (hmo : (Lit.int .i64 most).wf = true) :
    Calls Try.prog 9 #[.slice a n c, .int .i64 fr, .int .i64 most] w fun e w' => e = .returned (.bool true) ∧ Below w.heap.size w w' := by
  have hnc := h.le
  by_cases hbig : 67108864 < n
  · clear h
    go_enter Try.func9, Try.ntmps9
    go_wp2_with (go_at_call 24; (with_reducible refine (works_calls _).mono ?_); rintro e w1 ⟨rfl, hb⟩; (have HB := Lib.hid hb); clear hb)
    go_ret
    exact ⟨rfl, HB.out⟩
  have hfr2 := wf_i64 hfr
  have hmo2 := wf_i64 hmo
  have hn : n ≤ 67108864 := by omega
  have hln := h.len
  have H := Lib.hid h
  have hl8 : (packB l).length = (n + 7) / 8 := by rw [pack_len, hln]
  obtain ⟨d, hd⟩ : ∃ d, d = packB l := ⟨_, rfl⟩
  have hmd := fun w' h' => made_calls w' a n c l h' hn
  rw [← hd] at hl8
  simp only [← hd] at hmd
  obtain ⟨M, hM⟩ : ∃ M : Nat, (M : Int) = max 0 most := ⟨(max 0 most).toNat, by omega⟩
  have hMb : M ≤ 9223372036854775807 := by omega
  have HMD := Lib.hid hmd
  have HL8 := Lib.hid hl8
  have HM := Lib.hid hM
  clear h hln hmd hl8 hd hbig hM hfr hmo
  go_enter Try.func9, Try.ntmps9
  go_upto_region 9 with (first
    | (go_at_call 24; (with_reducible refine (works_calls _).mono ?_); rintro e w1 ⟨rfl, hb⟩; (have HB := Lib.hid hb); clear hb)
    | (go_at_call 25; (with_reducible refine (HMD.out _ (H.out.keep HB.out)).mono ?_); rintro e w3 ⟨gv, rfl, hgv, hv, hb⟩; (have HV := Lib.hid hv); (have HB3 := Lib.hid (HB.out.trans (hb.mono HB.out.size))); clear hgv hv hb))
  rw [← HM.out]
  obtain ⟨L, hL⟩ : ∃ L, L = eachL (btB d) n fr.toNat := ⟨_, rfl⟩
  have hwk : Calls Try.prog 33 #[.pointer (some ⟨gv, 0, none⟩), .int .i64 fr, .int .i64 (M : Nat)] w3 fun e w' => ∃ v, e = .returned (.tuple #[v, .bool true]) ∧ w'.ownsRow w3.heap.size 3 1 v (L.take M).length (intCs (L.take M)) ∧ Below w3.heap.size w3 w' := by
    obtain ⟨av, cv, hv, _⟩ := HV.out
    exact walked_calls w3 gv av cv _ _ _ hv fr hfr2 M hMb L (by rw [each_wh HL8.out]; exact hL)
  obtain ⟨R, hR⟩ : ∃ R, R = L.take M := ⟨_, rfl⟩
  rw [← hR] at hwk
  have HWK := Lib.hid hwk
  have HR := Lib.hid hR
  have HLL := Lib.hid hL
  clear hwk hR hL HMD H HB
  go_upto_region 10 with (go_at_call 33; (with_reducible refine HWK.out.mono ?_); rintro e w4 ⟨v, rfl, hrow, hb⟩; (obtain ⟨ar, cr, rfl, hsl⟩ := walked_rows hrow); (have HSL := Lib.hid hsl); (have HV4 := Lib.hid (HV.out.below hb)); (have HB4 := Lib.hid (HB3.out.trans (hb.mono HB3.out.size))); clear hrow hb hsl)
  clear HWK HV HB3
  have hec := each_cnt d n (n - fr.toNat) fr.toNat (Nat.le_refl _)
  rw [← HLL.out] at hec
  obtain ⟨hec1, hec2⟩ := hec
  have hcn := cnt_le d (min fr.toNat n)
  have hck := cnt_mono d (show min fr.toNat n ≤ n by omega)
  have hcN := cnt_le d n
  have hrk := fun (w0 : World) (hv : Vec w0 gv d n) => vrank hv fr hfr2
  obtain ⟨k, hk⟩ : ∃ k, k = cntB d (min fr.toNat n) := ⟨_, rfl⟩
  rw [← hk] at hec1 hrk hcn hck
  have hone := fun (w0 : World) (hv : Vec w0 gv d n) => vones hv
  obtain ⟨m, hm⟩ : ∃ m, m = cntB d n := ⟨_, rfl⟩
  rw [← hm] at hec1 hone hck hcN
  have hRl : R.length = min M (m - k) := by rw [HR.out, List.length_take, hec1]
  have hRg : ∀ j (hj : j < R.length), fr ≤ (R[j] : Int) ∧ R[j] < n ∧ selW d n ((k + j : Nat) : Int) = (R[j] : Int) := by
    intro j hj
    have hjL : j < L.length := by rw [hRl] at hj; omega
    have e : R[j] = L[j] := by simp only [HR.out, List.getElem_take]
    obtain ⟨g1, g2, g3, g4⟩ := hec2 j hjL
    rw [e]
    refine ⟨by omega, g2, ?_⟩
    rw [hk, ← g4]
    exact selW_at HL8.out hn _ g2 g3
  have HRL := Lib.hid hRl
  have HRG := Lib.hid hRg
  have HRK := Lib.hid (fun w' => drew_ex (w := w') (fun n => hrk _ (HV4.out.drewN n)))
  have HONE := Lib.hid (fun w' => drew_ex (w := w') (fun n => (hone _ (HV4.out.drewN n)).mono fun e w'' ⟨h1, h2⟩ => (show _ ∧ ∃ k, w'' = (w4.drewN n).drewN k from ⟨h1, 0, h2⟩)))
  have HDW : ∃ k, w4 = w4.drewN k := ⟨0, rfl⟩
  clear hec1 hec2 hrk hone hRl hRg hm hk HR HLL
  go_wp2_with (go_at_call 27; (with_reducible refine (HRK.out _ HDW).mono ?_); rintro e wz ⟨rfl, hd⟩; (have HDW := hd); clear hd)
  go_loopw [12] (fun iv wr => ∃ i : Nat, iv = .int .i64 (i : Nat) ∧ i ≤ R.length ∧ ∃ k, wr = w4.drewN k) (fun iv _ => R.length - (intOf iv).toNat)
  case atStart => exact ⟨0, rfl, Nat.zero_le _, HDW⟩
  case round =>
    obtain ⟨i, rfl, hi, q, hq⟩ := hrel
    clear HDW
    have hRb : R.length ≤ 67108864 := by have := HRL.out; omega
    by_cases hin : i < R.length
    · obtain ⟨g1, g2, g3⟩ := HRG.out i hin
      obtain ⟨b, o, rfl, hc0⟩ := HSL.out.cell i hin
      have hz : (intZs R).getD i 0 = (R[i] : Int) := by
        unfold intZs
        rw [List.getD_eq_getElem?_getD, List.getElem?_map, List.getElem?_eq_getElem hin]; rfl
      rw [hz] at hc0
      obtain ⟨x, hx⟩ : ∃ x, x = R[i] := ⟨_, rfl⟩
      rw [← hx] at g1 g2 g3 hc0
      have hcw : wr.cell? ⟨b, o + i, none⟩ = some (.int .i64 (x : Nat)) := by rw [hq]; exact hc0
      have hvw : Vec wr gv d n := by rw [hq]; exact HV4.out.drewN q
      have hsel := fun n2 => vsel (hvw.drewN n2) ((k : Int) + (i : Int)) (by have := HRL.out; omega)
      rw [show (k : Int) + (i : Int) = ((k + i : Nat) : Int) by omega, g3, Int.natCast_add] at hsel
      have hle := HSL.out.le
      have hki : k + i ≤ 1000000000 := by have := HRL.out; omega
      have HS := Lib.hid hsel
      have HQ := Lib.hid hq
      clear hsel hvw hc0 hz hx g3 hq
      go_wp2_with fail
      go_quiet ((go_at_call 30; (with_reducible exact quiet_dr (HS.out _))))
      go_wp2
      go_roundw
      case rel => exact ⟨i + 1, by go_num, by omega, q + nq, by rw [HQ.out]; simp [World.drewN, Nat.add_assoc]⟩
      case measure => simp [intOf]; omega
    · obtain rfl : i = R.length := by omega
      have hmin : ((R.length : Nat) : Int) = min (M : Int) ((m : Int) - (k : Int)) := by have := HRL.out; omega
      have hlenR : ((R.length : Nat) : Int) == min (M : Int) ((m : Int) - (k : Int)) := by rw [← hmin]; simp
      have HDW : ∃ k, wr = w4.drewN k := ⟨q, hq⟩
      clear hq
      have HMIN := Lib.hid hmin
      clear hmin
      go_wp2_with (go_at_call 32; (with_reducible refine (HONE.out _ HDW).mono ?_); rintro e wo ⟨rfl, hd⟩; (have HDW := hd); clear hd)
      go_ret
      obtain ⟨q, rfl⟩ := HDW
      exact ⟨rfl, below_drewN HB4.out q⟩
end Go.Proofs.Ytpphjiialgmidaa
