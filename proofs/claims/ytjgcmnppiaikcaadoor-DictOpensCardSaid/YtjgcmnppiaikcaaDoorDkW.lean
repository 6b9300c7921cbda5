/- Open and View of any bytes. -/
import Derived.Test.YtjgcmnppiaikcaaDoorDkU
import Derived.Test.YtjgcmnppiaikcaaDoorDkJ
set_option linter.unusedVariables false
set_option linter.unusedSimpArgs false
namespace Go.Proofs.YtjgcmnppiaikcaaDoor
open Go.RowKit Go.Tk
set_option maxRecDepth 100000 in
theorem said_calls (w : World) (gd n wd : Nat) (pa : Option Addr) (pc : Nat) (pz : List Int) (ea : Option Addr) (ec : Nat) (eb : List UInt8) (h : DictM w gd n wd pa pc pz ea ec (nums eb)) (P : Nat) (hP : P ≤ eb.length) :
    Calls Tryd.prog 17 #[.pointer (some ⟨gd, 0, none⟩), .int .i64 (P : Nat)] w fun e w' => e = .returned (.int .i64 (wrap64 (upS (nums (eb.drop P)) 0 0 mxU).1)) ∧ Below w.heap.size w w' := by
  have c3 := h.c3
  have heN := h.eN
  rw [nums_len] at heN c3
  have htl := SlI.tail h.es P (by rw [nums_len]; exact hP)
  have hec := h.es.le
  have hem := h.es.max
  rw [nums_drop, nums_len] at htl
  rw [nums_len] at hec
  obtain ⟨zb, hzb⟩ : ∃ zb, zb = eb.drop P := ⟨_, rfl⟩
  have hzl : zb.length = eb.length - P := by rw [hzb, List.length_drop]
  rw [← hzb, ← hzl] at htl
  obtain ⟨A, hA⟩ : ∃ A, A = (if ec = P then ea else Option.map (fun x => x.add P) ea) := ⟨_, rfl⟩
  rw [← hA] at htl
  obtain ⟨c2, hc2⟩ : ∃ c2, c2 = ec - P := ⟨_, rfl⟩
  rw [← hc2] at htl
  have hAn : A = none → c2 = 0 := fun h0 => by
    rw [hA] at h0
    split at h0
    · have := h.en h0; omega
    · cases ea with
      | none => have := h.en rfl; omega
      | some x => simp at h0
  have hAb : ∀ x, A = some x → x.block < w.heap.size := fun x hx => by
    rw [hA] at hx
    split at hx
    · exact h.ebk x hx
    · cases ea with
      | none => simp at hx
      | some y =>
        simp at hx
        have := h.ebk y rfl
        rw [← hx]
        unfold Addr.add
        split <;> exact this
  have hsub : eb.length - P = zb.length := hzl.symm
  rw [← hzb]
  have hrd := rdC_calls w A zb.length c2 (nums zb) htl hAn hAb
  have hA' := hA.symm
  have hc2' := hc2.symm
  have hu := nums_u8 zb
  have HU := Lib.hid hu
  have HRD := Lib.hid hrd
  clear hrd hA hc2 hzb hzl htl hAn hAb h hu
  go_enter Tryd.func17, Tryd.ntmps17
  go_wp2_with (first
    | (go_at_call 27; go_loud (refine HRD.out.mono ?_; rintro e w1 ⟨rfl, hC, k1⟩; (have HC1 := Lib.hid hC); (have B1 := Lib.hid (Kept.to_below k1 (Nat.le_refl w.heap.size) (fun _ h => h.elim))); (have z1 := k1.size); clear hC k1))
    | (go_at_call 29; go_loud (refine (cvarint_calls w1 _ _ _ _ _ _ HC1.out HU.out).mono ?_; rintro e w2 ⟨rfl, hC2, k2⟩; (have B2 := Lib.hid (B1.out.trans (Kept.to_below k2 z1 (fun k hk => by omega)))); clear hC2 k2)))
  go_ret
  exact ⟨rfl, B2.out⟩
/-- What Open and View hand back. -/
def OpenD (w : World) (b : List UInt8) (er : Int × Nat) (e : Ending) (w' : World) : Prop :=
  Below w.heap.size w w' ∧ ((er.1 ≠ 0 ∧ ∃ v, e = .returned (.tuple #[.pointer none, v]) ∧ EV w' v er.2 er.1) ∨
    (er.1 = 0 ∧ ∃ gd pa pc ea ec, w.heap.size ≤ gd ∧ e = .returned (.tuple #[.pointer (some ⟨gd, 0, none⟩), .nilIface]) ∧ DictM w' gd (hdN b) (hdW b) pa pc (nums (hdP b)) ea ec (nums (hdE b))))
theorem view_calls (w : World) (a : Option Addr) (c : Nat) (b : List UInt8) (hs : SlI .u8 w a b.length c (nums b)) (hn : a = none → c = 0) (ha : ∀ x, a = some x → x.block < w.heap.size) :
    Calls Tryd.prog 6 #[.slice a b.length c] w (OpenD w b (shE b)) := by
  have hsh := shape_calls w a c b hs hn ha
  have H := Lib.hid hsh
  clear hs hn ha hsh
  by_cases he : (shE b).1 = 0
  · have H2 : Hid (Calls Tryd.prog 11 #[.slice a b.length c] w fun e w' => ∃ gd, e = .returned (.tuple #[.pointer (some ⟨gd, 0, none⟩), .int .i64 (hd3 b : Nat), .int .i64 (hd4 b : Nat), .nilIface]) ∧ Below w.heap.size w w' ∧ ∃ pa pc ea ec, w.heap.size ≤ gd ∧ DictM w' gd (hdN b) (hdW b) pa pc (nums (hdP b)) ea ec (nums (hdE b))) := Lib.hid (H.out.mono fun e w' ⟨hb, h⟩ => by
      rcases h with ⟨h0, _⟩ | ⟨_, gd, pa, pc, ea, ec, h1, h2, h3⟩
      · exact absurd he h0
      · exact ⟨gd, h2, hb, pa, pc, ea, ec, h1, h3⟩)
    have HE := Lib.hid he
    clear he H
    go_enter Tryd.func6, Tryd.ntmps6
    go_wp2_with (go_at_call 11; (with_reducible refine H2.out.mono ?_); rintro e w1 ⟨gd, rfl, hb, hr⟩; (have HB := Lib.hid hb); (have HR := Lib.hid hr); clear hb hr)
    go_ret2
    obtain ⟨pa, pc, ea, ec, h1, h3⟩ := HR.out
    exact ⟨HB.out, .inr ⟨HE.out, gd, pa, pc, ea, ec, h1, rfl, h3⟩⟩
  · have H2 : Hid (Calls Tryd.prog 11 #[.slice a b.length c] w fun e w' => ∃ v, e = .returned (.tuple #[.pointer none, .int .i64 0, .int .i64 0, v]) ∧ Below w.heap.size w w' ∧ EV w' v (shE b).2 (shE b).1) := Lib.hid (H.out.mono fun e w' ⟨hb, h⟩ => by
      rcases h with ⟨_, v, h1, h2⟩ | ⟨h0, _⟩
      · exact ⟨v, h1, hb, h2⟩
      · exact absurd h0 he)
    have HE := Lib.hid he
    clear he H
    go_enter Tryd.func6, Tryd.ntmps6
    go_wp2_with (go_at_call 11; (with_reducible refine H2.out.mono ?_); rintro e w1 ⟨v, rfl, hb, hr⟩; (have HB := Lib.hid hb); (have HR := Lib.hid hr); clear hb hr)
    go_ret2
    exact ⟨HB.out, .inl ⟨HE.out, v, rfl, HR.out⟩⟩
theorem open_no (w : World) (a : Option Addr) (c : Nat) (b : List UInt8) (hs : SlI .u8 w a b.length c (nums b)) (hn : a = none → c = 0) (ha : ∀ x, a = some x → x.block < w.heap.size) (he : (shE b).1 ≠ 0) :
    Calls Tryd.prog 5 #[.slice a b.length c] w (OpenD w b (shE b)) := by
  have hsh := shape_calls w a c b hs hn ha
  have H2 : Hid (Calls Tryd.prog 11 #[.slice a b.length c] w fun e w' => ∃ i, e = .returned (.tuple #[.pointer none, .int .i64 0, .int .i64 0, .iface 64 (.pointer (some ⟨i, 0, none⟩))]) ∧ Below w.heap.size w w' ∧ EV w' (.iface 64 (.pointer (some ⟨i, 0, none⟩))) (shE b).2 (shE b).1) := Lib.hid (hsh.mono fun e w' ⟨hb, h⟩ => by
    rcases h with ⟨_, v, h1, h2⟩ | ⟨h0, _⟩
    · obtain ⟨i, rfl⟩ := h2.some he
      exact ⟨i, h1, hb, h2⟩
    · exact absurd h0 he)
  have HE := Lib.hid he
  clear he hsh hs hn ha
  go_enter Tryd.func5, Tryd.ntmps5
  go_wp2_with (go_at_call 11; (with_reducible refine H2.out.mono ?_); rintro e w1 ⟨v, rfl, hb, hr⟩; (have HB := Lib.hid hb); (have HR := Lib.hid hr); clear hb hr)
  go_ret2
  exact ⟨HB.out, .inl ⟨HE.out, _, rfl, HR.out⟩⟩
end Go.Proofs.YtjgcmnppiaikcaaDoor
