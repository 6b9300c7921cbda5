/- Open of right bytes: the walk. -/
import Derived.Test.YtpphjiialgmidaaRkBd
set_option linter.unusedVariables false
set_option linter.unusedSimpArgs false
namespace Go.Proofs.Ytpphjiialgmidaa
open Go.RowKit Go.Tk
set_option maxRecDepth 100000 in
set_option maxHeartbeats 1000000 in
theorem open_wh (w : World) (a : Option Addr) (c : Nat) (d : List UInt8) (N : Nat) (hl : d.length = (N + 7) / 8) (hp : padB d N = true) (hN : N ≤ 67108864) (hs : SlI .u8 w a (whB d N).length c (nums (whB d N))) :
    Calls Try.prog 21 #[.slice a (whB d N).length c] w fun e w' => ∃ gv, e = .returned (.tuple #[.pointer (some ⟨gv, 0, none⟩), .nilIface]) ∧ w.heap.size ≤ gv ∧ VecAt w' gv a c (whB d N) N (cntB d N) ∧ Below w.heap.size w w' := by
  have H1 := Lib.hid (shape_wh w a c d N hl hN hs)
  have HL := Lib.hid hl
  have HP := Lib.hid hp
  have HN := Lib.hid hN
  have HC := Lib.hid (cnt_pad d N hl hp)
  obtain ⟨m, hm⟩ : ∃ m, m = cntB d N := ⟨_, rfl⟩
  have HM := Lib.hid hm
  obtain ⟨bs, hbs⟩ : ∃ bs, bs = whB d N := ⟨_, rfl⟩
  have HBS := Lib.hid hbs
  rw [← hm, ← hbs] at H1 ⊢
  rw [← hm] at HC
  clear hl hp hN hs hm hbs
  go_enter Try.func21, Try.ntmps21
  go_wp2_with (first
    | (go_at_call 47; (with_reducible refine H1.out.mono ?_); rintro e w1 ⟨gv, rfl, hgv, hv, hb⟩; (have HV := Lib.hid hv); (have HB := Lib.hid hb); (have HG := Lib.hid hgv)
       (have HD := Lib.hid (data_wh w1 gv a c d N HL.out (by rw [← HBS.out, ← HM.out]; exact hv))); clear hv hb hgv)
    | (go_at_call 48; (with_reducible refine HD.out.mono ?_); rintro e w2 ⟨ad, cd, rfl, hsl, k, hw2⟩
       (have hv2 : VecAt w2 gv a c bs N m := hw2 ▸ HV.out.drewN k); (have hs2 : SlI .u8 w2 ad d.length cd (nums d) := hw2 ▸ hsl.drewN k); (have hb2 : Below w.heap.size w w2 := by rw [hw2]; exact HB.out.trans (below_drewN (Below.refl _ _) k))
       (have hpd := padded_calls w2 ad d.length cd d N hs2 HL.out HN.out); rw [HP.out] at hpd
       (have hct := fun q => count_calls (w2.drewN q) ad d.length cd d (hs2.drewN q) (by have := HL.out; have := HN.out; omega)); simp only [HC.out] at hct
       (have k1 := hv2.k1); (have k2 := hv2.k2)
       (have HPD := Lib.hid hpd); (have HCT := Lib.hid hct); (have HV2 := Lib.hid hv2); (have HS2 := Lib.hid hs2); (have HB2 := Lib.hid hb2)
       clear hpd hct hv2 hs2 hb2 hw2 hsl)
    | (go_at_call 40; (with_reducible refine HPD.out.mono ?_); rintro e w3 ⟨rfl, rfl⟩))
  go_quiet ((go_at_call 41; exact (HCT.out _).mono fun _ _ ⟨h1, h2⟩ => ⟨h1, _, h2.symm⟩))
  go_wp2_with (go_at_call 50; (with_reducible refine (spoilt_wh _ gv a c d N HL.out HP.out (by rw [← HBS.out, ← HM.out]; exact HV2.out.drewN _) ad d.length cd (HS2.out.drewN _)).mono ?_); rintro e w4 ⟨rfl, hb4⟩; (have HB4 := Lib.hid hb4); clear hb4)
  go_ret2
  exact ⟨gv, rfl, HG.out, (HV2.out.drewN _).below HB4.out, (below_drewN HB2.out _).trans (HB4.out.mono (by have := HB2.out.size; simpa using this))⟩
end Go.Proofs.Ytpphjiialgmidaa
