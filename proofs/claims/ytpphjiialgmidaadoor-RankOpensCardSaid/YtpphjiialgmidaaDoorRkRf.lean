/- The document's told, up, Numbers, Data. -/
import Derived.Test.YtpphjiialgmidaaDoorRkU
import Derived.Test.YtpphjiialgmidaaDoorDx
import Derived.Test.YtpphjiialgmidaaDoorRkBd
set_option linter.unusedVariables false
set_option linter.unusedSimpArgs false
namespace Go.Proofs.YtpphjiialgmidaaDoor
open Go.RowKit Go.Tk
set_option maxRecDepth 100000 in
set_option maxHeartbeats 1000000 in
theorem told_calls (w : World) (a : Option Addr) (c : Nat) (l : List UInt8) (k : Nat) (h : SlI .u8 w a l.length c (nums l)) (hk : k + 4 ≤ l.length) (hb : k ≤ 1000) :
    Calls Tryd.prog 33 #[.slice a l.length c, .int .i64 (k : Nat)] w fun e w' => e = .returned (.int .i64 (f4 l k : Nat)) ∧ ∃ q, w' = w.drewN q := by
  obtain ⟨b, o, rfl, c0⟩ := byte_cell h k (by omega)
  obtain ⟨b', o', e, c1⟩ := byte_cell h (k + 1) (by omega)
  obtain ⟨rfl, rfl⟩ : b = b' ∧ o = o' := by simpa using e
  obtain ⟨b', o', e', c2⟩ := byte_cell h (k + 2) (by omega)
  obtain ⟨rfl, rfl⟩ : b = b' ∧ o = o' := by simpa using e'
  obtain ⟨b', o', e'', c3⟩ := byte_cell h (k + 3) (by omega)
  obtain ⟨rfl, rfl⟩ : b = b' ∧ o = o' := by simpa using e''
  unfold f4
  have hlen := h.le
  have h0 := UInt8.toNat_lt (l.getD k 0)
  have h1 := UInt8.toNat_lt (l.getD (k + 1) 0)
  have h2 := UInt8.toNat_lt (l.getD (k + 2) 0)
  have h3 := UInt8.toNat_lt (l.getD (k + 3) 0)
  obtain ⟨y0, hy0⟩ : ∃ y, y = (l.getD k 0).toNat := ⟨_, rfl⟩
  obtain ⟨y1, hy1⟩ : ∃ y, y = (l.getD (k + 1) 0).toNat := ⟨_, rfl⟩
  obtain ⟨y2, hy2⟩ : ∃ y, y = (l.getD (k + 2) 0).toNat := ⟨_, rfl⟩
  obtain ⟨y3, hy3⟩ : ∃ y, y = (l.getD (k + 3) 0).toNat := ⟨_, rfl⟩
  rw [← hy0] at c0 h0 ⊢
  rw [← hy1] at c1 h1 ⊢
  rw [← hy2] at c2 h2 ⊢
  rw [← hy3] at c3 h3 ⊢
  clear h e e' e'' hy0 hy1 hy2 hy3
  obtain ⟨L, hL⟩ : ∃ L, L = l.length := ⟨_, rfl⟩
  rw [← hL] at hk hlen ⊢
  clear hL
  go_enter Tryd.func33, Tryd.ntmps33
  go_wp2_with fail
  go_quiet (fail)
  go_wp2
  go_ret
  refine ⟨ret_int ?_, _, rfl⟩
  omega
set_option maxRecDepth 100000 in
set_option maxHeartbeats 1000000 in
theorem numbers_calls (w : World) (a : Option Addr) (c : Nat) (l : List UInt8) (h : SlI .u8 w a l.length c (nums l)) (hk : 8 ≤ l.length) :
    Calls Tryd.prog 18 #[.slice a l.length c] w fun e w' => e = .returned (.tuple #[.int .i64 (f4 l 0 : Nat), .int .i64 (f4 l 4 : Nat)]) ∧ ∃ q, w' = w.drewN q := by
  have h0 := fun w' => drew_ex (w0 := w) (w := w') (fun q => told_calls (w.drewN q) a c l 0 (h.drewN q) (by omega) (by omega))
  have h4 := fun w' => drew_ex (w0 := w) (w := w') (fun q => told_calls (w.drewN q) a c l 4 (h.drewN q) (by omega) (by omega))
  simp only [show ((0 : Nat) : Int) = 0 from rfl, show ((4 : Nat) : Int) = 4 from rfl] at h0 h4
  have H0 := Lib.hid h0
  have H4 := Lib.hid h4
  have HDW : ∃ q, w = w.drewN q := ⟨0, rfl⟩
  clear h h0 h4
  go_enter Tryd.func18, Tryd.ntmps18
  go_wp2_with (first
    | (go_at_call 33; (with_reducible refine (H0.out _ HDW).mono ?_); rintro e wz ⟨rfl, hd⟩; (have HDW := hd); clear hd)
    | (go_at_call 33; (with_reducible refine (H4.out _ HDW).mono ?_); rintro e wz ⟨rfl, hd⟩; (have HDW := hd); clear hd))
  go_ret2
  exact ⟨rfl, HDW⟩
theorem SlI.cut8 {w : World} {a : Option Addr} {c : Nat} {l : List UInt8} {m : Nat} (h : SlI .u8 w a l.length c (nums l)) (hm : 8 + m ≤ l.length) : ∃ ad cd, (if c = 8 then a else Option.map (fun x => x.add 8) a) = ad ∧ c - 8 = cd ∧ SlI .u8 w ad m cd (nums ((l.drop 8).take m)) := by
  have := h.cut 8 m hm
  rw [show 8 + m - 8 = m by omega, nums_cut] at this
  exact ⟨_, _, rfl, rfl, this⟩
set_option maxRecDepth 100000 in
set_option maxHeartbeats 1000000 in
theorem rdata_go (w : World) (b o L c n k G : Nat) (hn : n ≤ 67108864) (hG : G = 8 + (n + 7) / 8) (hGL : G ≤ L) (hLc : L ≤ c) (hc : c ≤ 9223372036854775807)
    (hnum : Calls Tryd.prog 18 #[.slice (some ⟨b, o, none⟩) L c] w fun e w' => e = .returned (.tuple #[.int .i64 (n : Nat), .int .i64 (k : Nat)]) ∧ ∃ q, w' = w.drewN q) :
    Calls Tryd.prog 20 #[.slice (some ⟨b, o, none⟩) L c] w fun e w' => e = .returned (.slice (if c = 8 then some ⟨b, o, none⟩ else some ⟨b, o + 8, none⟩) (G - 8) (c - 8)) ∧ ∃ q, w' = w.drewN q := by
  have hup := fun w' => rup_calls (n : Nat) 8 w' (by omega) (by omega) (by omega) (by omega)
  have hui : ((n : Int) + 8 - 1) / 8 = ((G : Int) - 8) := by omega
  simp only [hui] at hup
  have h8G : 8 ≤ G := by omega
  have hGb : G ≤ 67108864 := by omega
  have HN := Lib.hid hnum
  have HU := Lib.hid hup
  obtain ⟨b8, h8⟩ : ∃ b : Prop, (c = 8) = b := ⟨_, rfl⟩
  clear hnum hup hui hG
  rcases (show b8 = True ∨ b8 = False by by_cases h : c = 8; exact .inl (h8.symm.trans (eq_true h)); exact .inr (h8.symm.trans (eq_false h))) with rfl | rfl
  · rw [if_pos (of_eq_true h8)]
    go_enter Tryd.func20, Tryd.ntmps20
    go_wp2_with (first
      | (go_at_call 18; (with_reducible refine HN.out.mono ?_); rintro e wz ⟨rfl, q, rfl⟩)
      | (go_at_call 24; (with_reducible refine (HU.out _).mono ?_); rintro e wz ⟨rfl, rfl⟩))
    go_ret
    refine ⟨?_, _, rfl⟩
    show Ending.returned (Value.slice _ (8 + (G - 8) - 8) _) = _
    rw [show 8 + (G - 8) - 8 = G - 8 by omega]
  · rw [if_neg (of_eq_false h8)]
    go_enter Tryd.func20, Tryd.ntmps20
    go_wp2_with (first
      | (go_at_call 18; (with_reducible refine HN.out.mono ?_); rintro e wz ⟨rfl, q, rfl⟩)
      | (go_at_call 24; (with_reducible refine (HU.out _).mono ?_); rintro e wz ⟨rfl, rfl⟩))
    go_ret
    refine ⟨?_, _, rfl⟩
    show Ending.returned (Value.slice _ (8 + (G - 8) - 8) _) = _
    rw [show 8 + (G - 8) - 8 = G - 8 by omega]
/-- The data of bytes whose head says n. -/
def daB (bs : List UInt8) (n : Nat) : List UInt8 := (bs.drop 8).take ((n + 7) / 8)
theorem rdata_calls (w : World) (a : Option Addr) (c : Nat) (l : List UInt8) (h : SlI .u8 w a l.length c (nums l)) (hN : f4 l 0 ≤ 67108864) (hE : 8 + (f4 l 0 + 7) / 8 ≤ l.length) :
    Calls Tryd.prog 20 #[.slice a l.length c] w fun e w' => ∃ ad cd, e = .returned (.slice ad ((f4 l 0 + 7) / 8) cd) ∧ SlI .u8 w ad ((f4 l 0 + 7) / 8) cd (nums (daB l (f4 l 0))) ∧ ∃ q, w' = w.drewN q := by
  obtain ⟨b, o, rfl, _⟩ := h.cell 0 (by omega)
  obtain ⟨ad, cd, e1, e2, h3⟩ := SlI.cut8 h hE
  have h2 := rdata_go w b o l.length c (f4 l 0) (f4 l 4) (8 + (f4 l 0 + 7) / 8) hN rfl hE h.le h.max (numbers_calls w _ c l h (by omega))
  have e3 : (if c = 8 then (some ⟨b, o, none⟩ : Option Addr) else some ⟨b, o + 8, none⟩) = ad := by rw [← e1]; split <;> rfl
  rw [e3, e2, show 8 + (f4 l 0 + 7) / 8 - 8 = (f4 l 0 + 7) / 8 by omega] at h2
  exact h2.mono fun e w' ⟨g1, g2⟩ => ⟨ad, cd, g1, h3, g2⟩
theorem da_bt (bs : List UInt8) (n i : Nat) (hi : i < 8 * ((n + 7) / 8)) : btB (daB bs n) i = btB (datB bs) i := by
  unfold btB daB datB
  rw [List.getD_eq_getElem?_getD, List.getD_eq_getElem?_getD, List.getElem?_take, if_pos (by omega)]
theorem da_len (bs : List UInt8) (n : Nat) (h : 8 + (n + 7) / 8 ≤ bs.length) : (daB bs n).length = (n + 7) / 8 := by
  unfold daB; simp; omega
end Go.Proofs.YtpphjiialgmidaaDoor
