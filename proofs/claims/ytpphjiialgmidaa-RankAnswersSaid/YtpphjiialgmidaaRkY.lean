/- View, data of right bytes. -/
import Derived.Test.YtpphjiialgmidaaRkO
import Derived.Test.YtpphjiialgmidaaRkG
set_option linter.unusedVariables false
set_option linter.unusedSimpArgs false
namespace Go.Proofs.Ytpphjiialgmidaa
open Go.RowKit Go.Tk
theorem shape_wh (w : World) (a : Option Addr) (c : Nat) (d : List UInt8) (N : Nat) (hl : d.length = (N + 7) / 8) (hN : N ≤ 67108864) (hs : SlI .u8 w a (whB d N).length c (nums (whB d N))) :
    Calls Try.prog 47 #[.slice a (whB d N).length c] w fun e w' => ∃ gv, e = .returned (.tuple #[.pointer (some ⟨gv, 0, none⟩), .bool true, .nilIface]) ∧ w.heap.size ≤ gv ∧ VecAt w' gv a c (whB d N) N (cntB d N) ∧ Below w.heap.size w w' := by
  obtain ⟨e1, e2, e3, e4⟩ := o_eq hl
  have hlen : (whB d N).length = oE N (cntB d N) := by rw [wh_len', e4]
  have h8 : 8 ≤ (whB d N).length := by rw [hlen]; unfold oE oM oS oG; omega
  have hm := cnt_le d N
  have h := shape_ok w a c (whB d N) hs h8 (by rw [wh_n hN]; exact hN) (by rw [wh_n hN, wh_m hN]; exact hm) (by rw [wh_n hN, wh_m hN, hlen]; exact Nat.le_refl _)
  rw [wh_n hN, wh_m hN] at h
  refine h.mono fun e w' ⟨gv, h1, h2, h3, h4⟩ => ⟨gv, ?_, h2, ⟨h3, hs.keep h4, hlen, hm, hN⟩, h4⟩
  rw [h1, show (((whB d N).length : Int) == (oE N (cntB d N) : Nat)) = true by rw [hlen]; simp]
theorem view_wh (w : World) (a : Option Addr) (c : Nat) (d : List UInt8) (N : Nat) (hl : d.length = (N + 7) / 8) (hN : N ≤ 67108864) (hs : SlI .u8 w a (whB d N).length c (nums (whB d N))) :
    Calls Try.prog 22 #[.slice a (whB d N).length c] w fun e w' => ∃ gv, e = .returned (.tuple #[.pointer (some ⟨gv, 0, none⟩), .nilIface]) ∧ w.heap.size ≤ gv ∧ VecAt w' gv a c (whB d N) N (cntB d N) ∧ Below w.heap.size w w' := by
  have h := shape_wh w a c d N hl hN hs
  have H := Lib.hid h
  clear h hs
  go_enter Try.func22, Try.ntmps22
  go_wp2_with (go_at_call 47; (with_reducible refine H.out.mono ?_); rintro e w1 ⟨gv, rfl, hgv, hv, hb⟩; (have HV := Lib.hid hv); (have HB := Lib.hid hb); (have HG := Lib.hid hgv); clear hv hb hgv)
  go_ret2
  exact ⟨gv, rfl, HG.out, HV.out, HB.out⟩
set_option maxRecDepth 100000 in
set_option maxHeartbeats 1000000 in
theorem data_go (w : World) (gv b o L c G : Nat) (hG : 8 ≤ G) (hGL : G ≤ L) (hLc : L ≤ c) (hc : c ≤ 9223372036854775807)
    (k0 : w.cell? ⟨gv, 0, none⟩ = some (.slice (some ⟨b, o, none⟩) L c)) (k3 : w.cell? ⟨gv, 3, none⟩ = some (.int .i64 8)) (k4 : w.cell? ⟨gv, 4, none⟩ = some (.int .i64 (G : Nat))) :
    Calls Try.prog 48 #[.pointer (some ⟨gv, 0, none⟩)] w fun e w' => e = .returned (.slice (if c = 8 then some ⟨b, o, none⟩ else some ⟨b, o + 8, none⟩) (G - 8) (c - 8)) ∧ ∃ k, w' = w.drewN k := by
  obtain ⟨b8, h8⟩ : ∃ b : Prop, (c = 8) = b := ⟨_, rfl⟩
  rcases (show b8 = True ∨ b8 = False by by_cases h : c = 8; exact .inl (h8.symm.trans (eq_true h)); exact .inr (h8.symm.trans (eq_false h))) with rfl | rfl
  · rw [if_pos (of_eq_true h8)]
    go_enter Try.func48, Try.ntmps48
    go_wp2_with fail
    go_quiet (fail)
    go_wp2
    go_ret
    exact ⟨rfl, _, rfl⟩
  · rw [if_neg (of_eq_false h8)]
    go_enter Try.func48, Try.ntmps48
    go_wp2_with fail
    go_quiet (fail)
    go_wp2
    go_ret
    exact ⟨rfl, _, rfl⟩
end Go.Proofs.Ytpphjiialgmidaa
