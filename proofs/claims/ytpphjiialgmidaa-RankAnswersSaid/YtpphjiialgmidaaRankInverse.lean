/- RankInverse: rank and select are each other's inverse. -/
import Derived.Test.YtpphjiialgmidaaRkN
import Derived.Test.YtpphjiialgmidaaDx
set_option linter.unusedVariables false
set_option linter.unusedSimpArgs false
namespace Go.Proofs.Ytpphjiialgmidaa
open Go.RowKit Go.Tk
set_option maxRecDepth 100000 in
set_option maxHeartbeats 4000000 in
theorem inverse_go (w : World) (a : Option Addr) (n c : Nat) (l : List Bool) (h : SlB w a n c l) (hc : c ≤ 140737488351232) :
    Calls Try.prog 6 #[.slice a n c] w fun e w' => e = .returned (.bool true) ∧ Below w.heap.size w w' := by
  have hnc := h.le
  by_cases hbig : 67108864 < n
  · clear h
    go_enter Try.func6, Try.ntmps6
    go_wp2_with (go_at_call 24; (with_reducible refine (works_calls _).mono ?_); rintro e w1 ⟨rfl, hb⟩; (have HB := Lib.hid hb); clear hb)
    go_ret
    exact ⟨rfl, HB.out⟩
  have hn : n ≤ 67108864 := by omega
  have hln := h.len
  have H := Lib.hid h
  have hl8 : (packB l).length = (n + 7) / 8 := by rw [pack_len, hln]
  have hbt := pack_bt l
  obtain ⟨d, hd⟩ : ∃ d, d = packB l := ⟨_, rfl⟩
  have hmd := fun w' h' => made_calls w' a n c l h' hn
  rw [← hd] at hl8 hbt
  simp only [← hd] at hmd
  have hcn := cnt_le d n
  have HMD := Lib.hid hmd
  have HL8 := Lib.hid hl8
  have HBT := Lib.hid hbt
  clear h hln hmd hl8 hbt hd hbig
  go_enter Try.func6, Try.ntmps6
  go_upto_region 6 with (first
    | (go_at_call 24; (with_reducible refine (works_calls _).mono ?_); rintro e w1 ⟨rfl, hb⟩; (have HB := Lib.hid hb); clear hb)
    | (go_at_call 25; (with_reducible refine (HMD.out _ (H.out.keep HB.out)).mono ?_); rintro e w3 ⟨gv, rfl, hgv, hv, hb⟩; (have HV := Lib.hid hv); (have HB3 := Lib.hid hb); clear hgv hv hb))
  have hb3 := HB.out.trans (HB3.out.mono HB.out.size)
  have H3 := Lib.hid (H.out.keep hb3)
  have HBB := Lib.hid hb3
  have HDW : ∃ k, w3 = w3.drewN k := ⟨0, rfl⟩
  have HLEN := Lib.hid (fun w' => drew_ex (w := w') (fun n => (vlen (HV.out.drewN n)).mono fun e w'' ⟨h1, h2⟩ => (show _ ∧ ∃ k, w'' = (w3.drewN n).drewN k from ⟨h1, 0, h2⟩)))
  have HONE := Lib.hid (fun w' => drew_ex (w := w') (fun n => (vones (HV.out.drewN n)).mono fun e w'' ⟨h1, h2⟩ => (show _ ∧ ∃ k, w'' = (w3.drewN n).drewN k from ⟨h1, 0, h2⟩)))
  clear HB HB3 HMD H hb3
  go_wp2_with (go_at_call 26; (with_reducible refine (HLEN.out _ HDW).mono ?_); rintro e wz ⟨rfl, hd⟩; (have HDW := hd); clear hd)
  go_loopw [4] (fun iv wr => ∃ i : Nat, iv = .int .i64 (i : Nat) ∧ i ≤ n ∧ ∃ k, wr = w3.drewN k) (fun iv _ => n - (intOf iv).toNat)
  case atStart => exact ⟨0, rfl, Nat.zero_le _, HDW⟩
  case round =>
    obtain ⟨i, rfl, hi, hdw⟩ := hrel
    clear HDW
    have HDW := hdw
    clear hdw
    by_cases hin : i < n
    · have hri := fun (w0 : World) (hv : Vec w0 gv d n) => vrank hv (i : Int) (by omega)
      have hr0 := fun (w0 : World) (hv : Vec w0 gv d n) => vrank0 hv (i : Int) (by omega)
      have hbi := fun (w0 : World) (hv : Vec w0 gv d n) => vbit hv (i : Int) (by omega)
      have hmin : min ((i : Nat) : Int).toNat n = i := by omega
      have hbv : bitW d n (i : Nat) = l.getD i false := by
        unfold bitW; rw [decide_eq_true (by omega), decide_eq_true (by omega), Int.toNat_natCast, HBT.out]; rfl
      rw [hmin] at hri hr0
      rw [hbv] at hbi
      have hci := cnt_le d i
      have hse : l.getD i false = true → selW d n (cntB d i : Nat) = (i : Nat) := fun hb => selW_at HL8.out hn i hin (by rw [HBT.out]; exact hb)
      have hs0 : l.getD i false = false → sel0W d n (i - cntB d i : Nat) = (i : Nat) := fun hb => sel0W_at HL8.out hn i hin (by rw [HBT.out]; exact hb)
      obtain ⟨r, hr⟩ : ∃ r, r = cntB d i := ⟨_, rfl⟩
      rw [← hr] at hri hr0 hse hs0 hci
      obtain ⟨z, hz⟩ : ∃ z, z = i - r := ⟨_, rfl⟩
      rw [← hz] at hr0 hs0
      have hrz : r + z = i := by omega
      have hcell : ∀ k, ∃ b o, a = some ⟨b, o, none⟩ ∧ (w3.drewN k).cell? ⟨b, o + i, none⟩ = some (.bool (l.getD i false)) := fun k => (H3.out.drewN k).cell i hin
      obtain ⟨b, o, rfl, hc0⟩ := hcell 0
      obtain ⟨B, hB⟩ : ∃ B, B = l.getD i false := ⟨_, rfl⟩
      rw [← hB] at hbi hse hs0 hc0
      have HRI := Lib.hid (fun w' => drew_ex (w := w') (fun n => hri _ (HV.out.drewN n)))
      have HR0 := Lib.hid (fun w' => drew_ex (w := w') (fun n => hr0 _ (HV.out.drewN n)))
      have HBI := Lib.hid hbi
      have HC0 := Lib.hid hc0
      have hsel := fun (w0 : World) (hv : Vec w0 gv d n) => vsel hv (r : Int) (by omega)
      have hsel0 := fun (w0 : World) (hv : Vec w0 gv d n) => vsel0 hv (z : Int) (by omega)
      clear hri hr0 hbi hcell hr hz hmin hbv hB hc0
      cases B with
      | true =>
        rw [hse rfl] at hsel
        have HS := Lib.hid hsel
        clear hse hs0 hsel hsel0
        go_upto_region 13 with (first
          | (go_at_call 27; (with_reducible refine (HRI.out _ HDW).mono ?_); rintro e wz ⟨rfl, hd⟩; (have HDW := hd); clear hd)
          | (go_at_call 28; (with_reducible refine (HR0.out _ HDW).mono ?_); rintro e wy ⟨rfl, hd⟩; (have HDW := hd); clear hd))
        have hvy : Vec wy gv d n := by obtain ⟨k, rfl⟩ := HDW; exact HV.out.drewN k
        have hcy : wy.cell? ⟨b, o + i, none⟩ = some (.bool true) := by obtain ⟨k, rfl⟩ := HDW; exact HC0.out
        have HVY := Lib.hid hvy
        clear hvy
        have hzr : ((r : Int) + (z : Int) != (i : Int)) = false := by simp; omega
        have hzr2 : ((r : Int) + (z : Int) == (i : Int)) = true := by simp; omega
        go_quiet (first
          | (go_at_call 29; (with_reducible exact quiet_dr (HBI.out _ (HVY.out.drewN _))))
          | (go_at_call 30; (with_reducible exact quiet_dr (HS.out _ (HVY.out.drewN _)))))
        go_wp2
        go_roundw
        case rel => exact ⟨i + 1, by go_num, by omega, by obtain ⟨k, rfl⟩ := HDW; exact ⟨k + nq, by simp [World.drewN, Nat.add_assoc]⟩⟩
        case measure => simp [intOf]; omega
      | false =>
        rw [hs0 rfl] at hsel0
        have HS := Lib.hid hsel0
        clear hse hs0 hsel hsel0
        go_upto_region 13 with (first
          | (go_at_call 27; (with_reducible refine (HRI.out _ HDW).mono ?_); rintro e wz ⟨rfl, hd⟩; (have HDW := hd); clear hd)
          | (go_at_call 28; (with_reducible refine (HR0.out _ HDW).mono ?_); rintro e wy ⟨rfl, hd⟩; (have HDW := hd); clear hd))
        have hvy : Vec wy gv d n := by obtain ⟨k, rfl⟩ := HDW; exact HV.out.drewN k
        have hcy : wy.cell? ⟨b, o + i, none⟩ = some (.bool false) := by obtain ⟨k, rfl⟩ := HDW; exact HC0.out
        have HVY := Lib.hid hvy
        clear hvy
        have hzr : ((r : Int) + (z : Int) != (i : Int)) = false := by simp; omega
        have hzr2 : ((r : Int) + (z : Int) == (i : Int)) = true := by simp; omega
        go_quiet (first
          | (go_at_call 29; (with_reducible exact quiet_dr (HBI.out _ (HVY.out.drewN _))))
          | (go_at_call 31; (with_reducible exact quiet_dr (HS.out _ (HVY.out.drewN _)))))
        go_wp2
        go_roundw
        case rel => exact ⟨i + 1, by go_num, by omega, by obtain ⟨k, rfl⟩ := HDW; exact ⟨k + nq, by simp [World.drewN, Nat.add_assoc]⟩⟩
        case measure => simp [intOf]; omega
    · obtain rfl : i = n := by omega
      go_wp2_with (go_at_call 32; (with_reducible refine (HONE.out _ HDW).mono ?_); rintro e wo ⟨rfl, hd⟩; (have HDW := hd); clear hd)
      obtain ⟨m, hm⟩ : ∃ m, m = cntB d i := ⟨_, rfl⟩
      have HM := Lib.hid hm
      rw [← hm] at hcn ⊢
      clear hm
      go_loopw [8] (fun kv wr => ∃ k : Nat, kv = .int .i64 (k : Nat) ∧ k ≤ m ∧ ∃ q, wr = w3.drewN q) (fun kv _ => m - (intOf kv).toNat)
      case atStart => exact ⟨0, rfl, Nat.zero_le _, HDW⟩
      case round =>
        obtain ⟨k, rfl, hk, hdw⟩ := hrel
        clear HDW
        have HDW := hdw
        clear hdw
        by_cases hkm : k < m
        · obtain ⟨v, hv1, hv2, hv3, hv4⟩ := selW_yes HL8.out hn k (by rw [← HM.out]; exact hkm)
          have hsel := fun (w0 : World) (hv : Vec w0 gv d i) => vsel hv (k : Int) (by omega)
          rw [hv1] at hsel
          have hrk := fun (w0 : World) (hv : Vec w0 gv d i) => vrank hv (v : Int) (by omega)
          rw [show min ((v : Nat) : Int).toNat i = v by omega, hv4] at hrk
          have HS := Lib.hid (fun w' => drew_ex (w := w') (fun n => hsel _ (HV.out.drewN n)))
          have HR := Lib.hid (fun w' => drew_ex (w := w') (fun n => hrk _ (HV.out.drewN n)))
          clear hsel hrk hv1 hv3 hv4
          go_wp2_with (first
            | (go_at_call 30; (with_reducible refine (HS.out _ HDW).mono ?_); rintro e wz ⟨rfl, hd⟩; (have HDW := hd); clear hd)
            | (go_at_call 27; (with_reducible refine (HR.out _ HDW).mono ?_); rintro e wy ⟨rfl, hd⟩; (have HDW := hd); clear hd))
          go_roundw
          case rel => exact ⟨k + 1, by go_num, by omega, HDW⟩
          case measure => simp [intOf]; omega
        · obtain rfl : k = m := by omega
          have hsel := fun (w0 : World) (hv : Vec w0 gv d i) => vsel hv (k : Int) (by omega)
          rw [selW_no (.inr (by rw [← HM.out]; omega))] at hsel
          have hsel0 := fun (w0 : World) (hv : Vec w0 gv d i) => vsel0 hv ((i : Int) - (k : Int)) (by omega)
          rw [sel0W_no (.inr (by rw [← HM.out]; omega))] at hsel0
          have hrk := fun (w0 : World) (hv : Vec w0 gv d i) => vrank hv (i : Int) (by omega)
          rw [show min ((i : Nat) : Int).toNat i = i by omega, ← HM.out] at hrk
          have hr0 := fun (w0 : World) (hv : Vec w0 gv d i) => vrank0 hv (i : Int) (by omega)
          rw [show min ((i : Nat) : Int).toNat i = i by omega, ← HM.out, Int.natCast_sub (by omega)] at hr0
          have HS := Lib.hid (fun w' => drew_ex (w := w') (fun n => hsel _ (HV.out.drewN n)))
          have HS0 := Lib.hid (fun w' => drew_ex (w := w') (fun n => hsel0 _ (HV.out.drewN n)))
          have HR := Lib.hid (fun w' => drew_ex (w := w') (fun n => hrk _ (HV.out.drewN n)))
          have HR0 := Lib.hid (fun w' => drew_ex (w := w') (fun n => hr0 _ (HV.out.drewN n)))
          clear hsel hsel0 hrk hr0
          go_wp2_with (first
            | (go_at_call 30; (with_reducible refine (HS.out _ HDW).mono ?_); rintro e wz ⟨rfl, hd⟩; (have HDW := hd); clear hd)
            | (go_at_call 31; (with_reducible refine (HS0.out _ HDW).mono ?_); rintro e wz ⟨rfl, hd⟩; (have HDW := hd); clear hd)
            | (go_at_call 27; (with_reducible refine (HR.out _ HDW).mono ?_); rintro e wy ⟨rfl, hd⟩; (have HDW := hd); clear hd)
            | (go_at_call 28; (with_reducible refine (HR0.out _ HDW).mono ?_); rintro e wy ⟨rfl, hd⟩; (have HDW := hd); clear hd))
          go_ret
          obtain ⟨q, rfl⟩ := HDW
          exact ⟨rfl, below_drewN HBB.out q⟩
end Go.Proofs.Ytpphjiialgmidaa
