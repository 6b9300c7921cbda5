/- Open of any bytes. -/
import Derived.Test.YtpphjiialgmidaaDoorRkSp
import Derived.Test.YtpphjiialgmidaaDoorRkRf
set_option linter.unusedVariables false
set_option linter.unusedSimpArgs false
namespace Go.Proofs.YtpphjiialgmidaaDoor
open Go.RowKit Go.Tk
/-- What Open says of bytes: a place and a number (0, 0: a vector). -/
def OpenR (bs : List UInt8) (x y : Nat) : Prop :=
  ((shF bs).2 ≠ 0 ∧ x = (shF bs).1 ∧ y = (shF bs).2) ∨
  ((shF bs).2 = 0 ∧ padB (daB bs (f4 bs 0)) (f4 bs 0) = false ∧ x = oG (f4 bs 0) - 1 ∧ y = 12) ∨
  ((shF bs).2 = 0 ∧ padB (daB bs (f4 bs 0)) (f4 bs 0) = true ∧ cntB (daB bs (f4 bs 0)) (f4 bs 0) ≠ f4 bs 4 ∧ x = 4 ∧ y = 20) ∨
  ((shF bs).2 = 0 ∧ padB (daB bs (f4 bs 0)) (f4 bs 0) = true ∧ cntB (daB bs (f4 bs 0)) (f4 bs 0) = f4 bs 4 ∧ ∃ f L, FirstS bs (daB bs (f4 bs 0)) (f4 bs 0) L f ∧ (∀ t, t ∈ L ↔ Vt (daB bs (f4 bs 0)) (f4 bs 0) t) ∧
    ((f ≠ -1 ∧ (x : Int) = f ∧ y = 20) ∨ (f = -1 ∧ oE (f4 bs 0) (f4 bs 4) < bs.length ∧ x = oE (f4 bs 0) (f4 bs 4) ∧ y = 13) ∨ (f = -1 ∧ bs.length = oE (f4 bs 0) (f4 bs 4) ∧ x = 0 ∧ y = 0)))
theorem data_any (w : World) (gv : Nat) (a : Option Addr) (c : Nat) (bs : List UInt8) (N m : Nat) (hv : VecL w gv a c bs N m) :
    Calls Tryd.prog 12 #[.pointer (some ⟨gv, 0, none⟩)] w fun e w' => ∃ ad cd, e = .returned (.slice ad ((N + 7) / 8) cd) ∧ SlI .u8 w ad ((N + 7) / 8) cd (nums (daB bs N)) ∧ (∀ x, ad = some x → x.block < w.heap.size) ∧ ∃ k, w' = w.drewN k := by
  have hfit := hv.fit
  have h8 : 8 + (N + 7) / 8 ≤ bs.length := by unfold oE oM oS oG at hfit; omega
  obtain ⟨b, o, rfl, hc⟩ := hv.sl.cell 0 (by omega)
  have hbl := block_lt_of_cell hc
  obtain ⟨ad, cd, e1, e2, h3⟩ := SlI.cut8 hv.sl h8
  have hG : oG N = 8 + (N + 7) / 8 := rfl
  have k0 : w.cell? ⟨gv, 0, none⟩ = _ := cell_of_row w gv 0 _ _ _ hv.row
  have k3 : w.cell? ⟨gv, 3, none⟩ = some (.int .i64 8) := cell_of_row w gv 3 _ _ _ hv.row
  have k4 : w.cell? ⟨gv, 4, none⟩ = some (.int .i64 (oG N : Nat)) := cell_of_row w gv 4 _ _ _ hv.row
  have h2 := data_go w gv b o bs.length c (oG N) (by omega) (by omega) hv.sl.le hv.sl.max k0 k3 k4
  have e3 : (if c = 8 then (some ⟨b, o, none⟩ : Option Addr) else some ⟨b, o + 8, none⟩) = ad := by rw [← e1]; split <;> rfl
  rw [e3, e2, show oG N - 8 = (N + 7) / 8 by omega] at h2
  refine h2.mono fun e w' ⟨g1, g2⟩ => ⟨ad, cd, g1, h3, ?_, g2⟩
  intro x hx
  rw [← e3] at hx
  split at hx
  · cases hx; exact hbl
  · cases hx; exact hbl
set_option maxRecDepth 100000 in
set_option maxHeartbeats 4000000 in
theorem open_any (w : World) (a : Option Addr) (c : Nat) (bs : List UInt8) (hs : SlI .u8 w a bs.length c (nums bs)) :
    Calls Tryd.prog 5 #[.slice a bs.length c] w fun e w' => ∃ p v x y, e = .returned (.tuple #[.pointer p, v]) ∧ OpenR bs x y ∧ EV w' v (x : Nat) (y : Nat) ∧ Below w.heap.size w w' ∧
      ((y ≠ 0 ∧ p = none) ∨ (y = 0 ∧ ∃ gv, p = some ⟨gv, 0, none⟩ ∧ VecAt w' gv a c bs (f4 bs 0) (f4 bs 4))) := by
  by_cases he : (shF bs).2 ≠ 0
  · have hS := shape_no w a c bs hs he
    have hR : OpenR bs (shF bs).1 (shF bs).2 := .inl ⟨he, rfl, rfl⟩
    obtain ⟨x, hx⟩ : ∃ x, x = (shF bs).1 := ⟨_, rfl⟩
    obtain ⟨y, hy⟩ : ∃ y, y = (shF bs).2 := ⟨_, rfl⟩
    rw [← hx, ← hy] at hS hR
    rw [← hy] at he
    have hy0 : (y : Int) ≠ 0 := by omega
    have H := Lib.hid hS
    have HR := Lib.hid hR
    clear hS hs hx hy hR
    go_enter Tryd.func5, Tryd.ntmps5
    go_wp2_with (go_at_call 11; (with_reducible refine H.out.mono ?_); rintro e w1 ⟨v, rfl, hv, hb⟩; obtain ⟨i, rfl⟩ := hv.some hy0; (have HV := Lib.hid hv); (have HB := Lib.hid hb); clear hv hb)
    go_ret2
    exact ⟨none, _, x, y, rfl, HR.out, HV.out, HB.out, .inl ⟨he, rfl⟩⟩
  have he0 : (shF bs).2 = 0 := by simpa using he
  obtain ⟨h8, hN, hm, hE, _⟩ := shF_ok he0
  have hS := shape_yes w a c bs hs he0
  have hE8 : 8 + (f4 bs 0 + 7) / 8 ≤ bs.length := by unfold oE oM oS oG at hE; omega
  have hdl := da_len bs (f4 bs 0) hE8
  have hGb : 8 ≤ oG (f4 bs 0) ∧ oG (f4 bs 0) ≤ 100000000 := by unfold oG; omega
  have hEb : oE (f4 bs 0) (f4 bs 4) ≤ 1000000000 := by unfold oE oM oS oG; omega
  have hR1 := fun h => (show OpenR bs (oG (f4 bs 0) - 1) 12 from .inr (.inl ⟨he0, h, rfl, rfl⟩))
  have hR2 := fun h h2 => (show OpenR bs 4 20 from .inr (.inr (.inl ⟨he0, h, h2, rfl, rfl⟩)))
  have hR3 := fun x y h h2 h3 => (show OpenR bs x y from .inr (.inr (.inr ⟨he0, h, h2, h3⟩)))
  have hVL := fun (w' : World) gv (h : VRow w' gv a bs.length c (f4 bs 0) (f4 bs 4) 8 (oG (f4 bs 0) : Nat) (oS (f4 bs 0) : Nat) (oM (f4 bs 0) : Nat) (oE (f4 bs 0) (f4 bs 4) : Nat)) hb => (show VecL w' gv a c bs (f4 bs 0) (f4 bs 4) from ⟨h, hs.keep hb, hE, hm, hN⟩)
  obtain ⟨d, hd⟩ : ∃ d, d = daB bs (f4 bs 0) := ⟨_, rfl⟩
  rw [← hd] at hR1 hR2 hR3 hdl
  have hda := fun w' gv h => data_any w' gv a c bs (f4 bs 0) (f4 bs 4) h
  rw [← hd] at hda
  obtain ⟨N, hNN⟩ : ∃ N, N = f4 bs 0 := ⟨_, rfl⟩
  obtain ⟨m, hmm⟩ : ∃ m, m = f4 bs 4 := ⟨_, rfl⟩
  rw [← hNN] at hS hN hm hE hdl hGb hEb hR1 hR2 hR3 hVL hda ⊢
  rw [← hmm] at hS hm hE hEb hR2 hR3 hVL hda ⊢
  obtain ⟨bf, hbf⟩ : ∃ bf, bf = ((bs.length : Int) == (oE N m : Nat)) := ⟨_, rfl⟩
  rw [← hbf] at hS
  have habk : ∀ x, a = some x → x.block < w.heap.size := fun x hx => by
    obtain ⟨b, o, e, hc⟩ := hs.cell 0 (by omega)
    rw [hx] at e
    cases e
    exact block_lt_of_cell hc
  have H := Lib.hid hS
  have HVL := Lib.hid hVL
  have HDA := Lib.hid hda
  have HR1 := Lib.hid hR1
  have HR2 := Lib.hid hR2
  have HR3 := Lib.hid hR3
  have HDL := Lib.hid hdl
  have HBF := Lib.hid hbf
  have HAB := Lib.hid habk
  clear hS hs he he0 hd hNN hmm hbf hVL hda hR1 hR2 hR3 hdl habk hE8
  go_enter Tryd.func5, Tryd.ntmps5
  go_upto_region 4 with (go_at_call 11; (with_reducible refine H.out.mono ?_); rintro e w1 ⟨gv, rfl, hgv, hv, hb⟩; (have HV := Lib.hid (HVL.out _ _ hv hb)); (have HB := Lib.hid hb); clear hv hb hgv)
  clear H HVL
  have HDG := Lib.hid (HDA.out _ _ HV.out)
  clear HDA
  go_upto_region 5 with (go_at_call 12; (with_reducible refine HDG.out.mono ?_); rintro e w2 ⟨ad, cd, rfl, hsl, hdb, k, hw2⟩; (have HW2 := Lib.hid hw2); (have HSL := Lib.hid hsl); (have HDB := Lib.hid hdb); clear hsl hdb hw2)
  have hv2 : VecL w2 gv a c bs N m := by rw [HW2.out]; exact HV.out.drewN k
  have hs2 : SlI .u8 w2 ad ((N + 7) / 8) cd (nums d) := by rw [HW2.out]; exact HSL.out.drewN k
  have hb2 : Below w.heap.size w w2 := by rw [HW2.out]; exact below_drewN HB.out k
  have hdb2 : ∀ x, ad = some x → x.block < w2.heap.size := by rw [HW2.out]; exact HDB.out
  have hab2 : ∀ x, a = some x → x.block < w2.heap.size := fun x hx => Nat.lt_of_lt_of_le (HAB.out x hx) hb2.size
  have hpd := padded_calls w2 ad _ cd d N hs2 HDL.out hN
  have k1 : w2.cell? ⟨gv, 1, none⟩ = some (.int .i64 (N : Nat)) := cell_of_row w2 gv 1 _ _ _ hv2.row
  have k2 : w2.cell? ⟨gv, 2, none⟩ = some (.int .i64 (m : Nat)) := cell_of_row w2 gv 2 _ _ _ hv2.row
  have k4 : w2.cell? ⟨gv, 4, none⟩ = some (.int .i64 (oG N : Nat)) := cell_of_row w2 gv 4 _ _ _ hv2.row
  have hct := fun q => count_calls (w2.drewN q) ad _ cd d (hs2.drewN q) (by omega)
  have HV2 := Lib.hid hv2
  have HS2 := Lib.hid hs2
  have HB2 := Lib.hid hb2
  have HDB2 := Lib.hid hdb2
  have HAB2 := Lib.hid hab2
  clear HV HSL HB HDB HW2 HDG hv2 hs2 hb2 hdb2 hab2 HAB
  cases hpb : padB d N with
  | false =>
    rw [hpb] at hpd
    have HPD := Lib.hid hpd
    have HPB := Lib.hid hpb
    clear hpd hpb hct
    obtain ⟨G, hG⟩ : ∃ G, G = oG N := ⟨_, rfl⟩
    rw [← hG] at k4 hGb
    have HG := Lib.hid hG
    clear hG
    go_wp2_with (first
      | (go_at_call 13; (with_reducible refine HPD.out.mono ?_); rintro e w3 ⟨rfl, rfl⟩)
      | (go_at_call 14; (with_reducible refine (wrong_calls _ _ _).mono ?_); rintro e w9 ⟨b9, rfl, hb9, hr9, hbe9⟩; (have HR9 := Lib.hid hr9); (have HBE9 := Lib.hid hbe9); clear hr9 hbe9))
    go_ret2
    refine ⟨none, _, _, _, rfl, HR1.out HPB.out, ?_, HB2.out.trans (HBE9.out.mono HB2.out.size), .inl ⟨by decide, rfl⟩⟩
    refine .inr ⟨_, by decide, rfl, ?_⟩
    rw [← HG.out, Int.natCast_sub (by omega)]
    exact HR9.out
  | true =>
    rw [hpb] at hpd
    have hce := cnt_pad d N HDL.out hpb
    rw [HDL.out] at hce
    simp only [hce] at hct
    have HPD := Lib.hid hpd
    have HPB := Lib.hid hpb
    have HCT := Lib.hid (fun q => (hct q).mono fun _ _ ⟨h1, h2⟩ => (show _ ∧ ∃ m, _ = w2.drewN m from ⟨h1, q, h2.symm⟩))
    clear hpd hpb hct hce
    obtain ⟨C, hC⟩ : ∃ C, C = cntB d N := ⟨_, rfl⟩
    rw [← hC] at HCT HR2 HR3
    have hCb := cnt_le d N
    rw [← hC] at hCb
    go_upto_region 7 with (go_at_call 13; (with_reducible refine HPD.out.mono ?_); rintro e w3 ⟨rfl, rfl⟩)
    have HC := Lib.hid hC
    clear hC
    go_quiet ((go_at_call 15; exact HCT.out _))
    by_cases hCm : C = m
    · have e1 : ((C : Int) != (m : Int)) = false := by simp; omega
      have hsp := spoilt_any (w2.drewN nq) gv a c bs d N m HDL.out HPB.out (by rw [← HC.out]; exact hCm) (HV2.out.drewN nq) ad _ cd (HS2.out.drewN nq) HAB2.out HDB2.out
      have HSP := Lib.hid hsp
      have HCM := Lib.hid hCm
      clear hsp hCm
      go_upto_region 10 with (go_at_call 16; (with_reducible refine HSP.out.mono ?_); rintro e w5 ⟨f, L, rfl, hfs, hL, hb⟩; (have HFS := Lib.hid hfs); (have HLL := Lib.hid hL); (have HV5 := Lib.hid ((HV2.out.drewN nq).below hb)); (have HB5 := Lib.hid ((below_drewN HB2.out nq).trans (hb.mono (below_drewN HB2.out nq).size))); clear hfs hL hb)
      have hfb := HFS.out.bd (fun t h => (HLL.out t).1 h)
      clear HSP HCT HPD HV2 HS2
      by_cases hf : f = -1
      · subst hf
        have k7 : w5.cell? ⟨gv, 7, none⟩ = some (.int .i64 (oE N m : Nat)) := cell_of_row w5 gv 7 _ _ _ HV5.out.row
        by_cases hgt : oE N m < bs.length
        · have hbf : bf = false := by rw [HBF.out]; simp; omega
          subst hbf
          have hres := HR3.out (oE N m) 13 HPB.out HCM.out ⟨-1, L, HFS.out, HLL.out, .inr (.inl ⟨rfl, hgt, rfl, rfl⟩)⟩
          have HRES := Lib.hid hres
          clear hres hgt
          go_wp2_with (go_at_call 14; (with_reducible refine (wrong_calls _ _ _).mono ?_); rintro e w9 ⟨b9, rfl, hb9, hr9, hbe9⟩; (have HR9 := Lib.hid hr9); (have HBE9 := Lib.hid hbe9); clear hr9 hbe9)
          go_ret2
          exact ⟨none, _, _, _, rfl, HRES.out, .inr ⟨_, by decide, rfl, HR9.out⟩, HB5.out.trans (HBE9.out.mono HB5.out.size), .inl ⟨by decide, rfl⟩⟩
        · have hbeq : bs.length = oE N m := by omega
          have hbf : bf = true := by rw [HBF.out, hbeq]; simp
          subst hbf
          have hres := HR3.out 0 0 HPB.out HCM.out ⟨-1, L, HFS.out, HLL.out, .inr (.inr ⟨rfl, hbeq, rfl, rfl⟩)⟩
          have HRES := Lib.hid hres
          have HVA := Lib.hid (HV5.out.at hbeq)
          clear hres hgt hbeq
          go_wp2_with fail
          go_ret2
          exact ⟨_, _, 0, 0, rfl, HRES.out, EV.nil _, HB5.out, .inr ⟨rfl, gv, rfl, HVA.out⟩⟩
      · have hf0 : 0 ≤ f := by omega
        obtain ⟨x, rfl⟩ : ∃ x : Nat, f = x := ⟨f.toNat, by omega⟩
        have hres := HR3.out x 20 HPB.out HCM.out ⟨x, L, HFS.out, HLL.out, .inl ⟨hf, rfl, rfl⟩⟩
        have HRES := Lib.hid hres
        clear hres hf hf0
        go_wp2_with (go_at_call 14; (with_reducible refine (wrong_calls _ _ _).mono ?_); rintro e w9 ⟨b9, rfl, hb9, hr9, hbe9⟩; (have HR9 := Lib.hid hr9); (have HBE9 := Lib.hid hbe9); clear hr9 hbe9)
        go_ret2
        exact ⟨none, _, _, _, rfl, HRES.out, .inr ⟨_, by decide, rfl, HR9.out⟩, HB5.out.trans (HBE9.out.mono HB5.out.size), .inl ⟨by decide, rfl⟩⟩
    · have e1 : ((C : Int) != (m : Int)) = true := by simp; omega
      go_wp2_with (go_at_call 14; (with_reducible refine (wrong_calls _ _ _).mono ?_); rintro e w9 ⟨b9, rfl, hb9, hr9, hbe9⟩; (have HR9 := Lib.hid hr9); (have HBE9 := Lib.hid hbe9); clear hr9 hbe9)
      go_ret2
      exact ⟨none, _, _, _, rfl, HR2.out HPB.out hCm, .inr ⟨_, by decide, rfl, HR9.out⟩, (below_drewN HB2.out nq).trans (HBE9.out.mono (below_drewN HB2.out nq).size), .inl ⟨by decide, rfl⟩⟩
end Go.Proofs.YtpphjiialgmidaaDoor
