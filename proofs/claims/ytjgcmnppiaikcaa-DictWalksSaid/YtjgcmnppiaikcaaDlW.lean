/- The chapter's first two examples. -/
import Derived.Test.YtjgcmnppiaikcaaDlM
import Derived.Test.YtjgcmnppiaikcaaDlF
set_option linter.unusedVariables false
set_option linter.unusedSimpArgs false
namespace Go.Proofs.Ytjgcmnppiaikcaa
open Go.RowKit Go.Tk
def exL : List (List UInt8) := [[97], [97, 98], [98]]
theorem ex_good : Good exL := by
  refine ⟨fun i hi => ?_, fun i h0 hi => ?_, by decide⟩
  · match i, hi with
    | 0, _ => decide
    | 1, _ => decide
    | 2, _ => decide
  · match i, hi with
    | 1, _ => decide +kernel
    | 2, _ => decide +kernel
theorem ex_b11 : buildE exL 11 = 0 ∧ buildO exL 11 = dictB exL ∧ (dictB exL).length = 11 ∧ buildE exL 10 = 1 := by decide +kernel
theorem ex_ask : fnd exL [97, 97] = 1 ∧ fnd exL [97] = 0 ∧ fnd2 exL [97] = 2 ∧ exL.getD 1 [] = [97, 98] ∧ exL.length = 3 := by decide +kernel
theorem ex_txt : TxtOk exL := by
  intro s hs
  simp only [exL, List.mem_cons, List.not_mem_nil, or_false] at hs
  rcases hs with rfl | rfl | rfl <;> decide
theorem dlen_calls (w : World) (gd n wd : Nat) (pa : Option Addr) (pc : Nat) (pz : List Int) (ea : Option Addr) (ec : Nat) (ez : List Int) (h : DictM w gd n wd pa pc pz ea ec ez) :
    Calls Try.prog 24 #[.pointer (some ⟨gd, 0, none⟩)] w fun e w' => e = .returned (.int .i64 (n : Nat)) ∧ w = w' := by
  have c0 := h.c0
  clear h
  go_enter Try.func24, Try.ntmps24
  go_wp2
  go_ret
  exact ⟨rfl, rfl⟩
theorem ex_sl {w : World} {g : Nat} (h : w.heap[g]? = some (.cells #[.string ⟨#[97]⟩, .string ⟨#[97, 98]⟩, .string ⟨#[98]⟩] 9 (0, 0))) : SlS w (some ⟨g, 0, none⟩) 3 3 exL := by
  refine ⟨rfl, Nat.le_refl _, by decide, fun i hi => ⟨g, 0, rfl, ?_⟩⟩
  rw [Nat.zero_add, cell_of_row w g i _ _ _ h]
  match i, hi with
  | 0, _ => rfl
  | 1, _ => rfl
  | 2, _ => rfl
set_option maxRecDepth 100000 in
set_option maxHeartbeats 2000000 in
theorem works_calls (w : World) : Calls Try.prog 22 #[] w fun e w' => e = .returned (.bool true) ∧ Below w.heap.size w w' := by
  have hG := ex_good
  obtain ⟨x1, x2, x3, x4⟩ := ex_b11
  obtain ⟨y1, y2, y3, y4, y5⟩ := ex_ask
  obtain ⟨b, hb⟩ := bytes_of (dictB_u8 hG)
  have hob := open_built hG hb
  have hbz : b.length = 11 := by rw [← nums_len b, hb, x3]
  have hbl1 : ∀ W g, W.heap[g]? = some (.cells #[.string ⟨#[97]⟩, .string ⟨#[97, 98]⟩, .string ⟨#[98]⟩] 9 (0, 0)) → Calls Try.prog 11 #[.slice (some ⟨g, 0, none⟩) 3 3, .int .i64 11] W fun e w' => ∃ x, e = .returned (.tuple #[.slice x 11 11, .int .i64 0]) ∧ SlI .u8 w' x 11 11 (nums b) ∧ (x = none → False) ∧ (∀ y, x = some y → y.block < w'.heap.size) ∧ Below W.heap.size W w' := fun W g hg => by
    have := dbuild_calls W (some ⟨g, 0, none⟩) 3 3 exL (ex_sl hg) ex_txt hG.tt 11 ⟨by decide, by decide⟩
    rw [x1, x2] at this
    refine this.mono ?_
    rintro e w' ⟨v, rfl, ho, hbw⟩
    obtain ⟨x, hv, hs, hn⟩ := OwC.slN ho
    rw [x3] at hv hs hn
    subst hv
    exact ⟨x, rfl, by rw [hb]; exact hs, fun h => by have := hn h; omega, fun y hy => by subst hy; exact (ho.lt y.block rfl).2, hbw⟩
  have hbl2 : ∀ W g, W.heap[g]? = some (.cells #[.string ⟨#[97]⟩, .string ⟨#[97, 98]⟩, .string ⟨#[98]⟩] 9 (0, 0)) → Calls Try.prog 11 #[.slice (some ⟨g, 0, none⟩) 3 3, .int .i64 10] W fun e w' => ∃ v, e = .returned (.tuple #[v, .int .i64 1]) ∧ Below W.heap.size W w' := fun W g hg => by
    have := dbuild_calls W (some ⟨g, 0, none⟩) 3 3 exL (ex_sl hg) ex_txt hG.tt 10 ⟨by decide, by decide⟩
    rw [x4] at this
    exact this.mono fun e w' ⟨v, h1, h2, h3⟩ => ⟨v, h1, h3⟩
  have hop : ∀ W x, SlI .u8 W x 11 11 (nums b) → (x = none → False) → (∀ y, x = some y → y.block < W.heap.size) → Calls Try.prog 18 #[.slice x 11 11] W fun e w' => ∃ gd pa pc ea ec, e = .returned (.tuple #[.pointer (some ⟨gd, 0, none⟩), .nilIface]) ∧ DictM w' gd 3 (widthD exL).toNat pa pc (packD exL) ea ec (nums (hdE b)) ∧ Below W.heap.size W w' := fun W x hs hn ha => by
    have := open_yes W x 11 b (by rw [hbz]; exact hs) (fun h => (hn h).elim) ha (by rw [hob.1])
    rw [hbz] at this
    refine this.mono ?_
    rintro e w' ⟨hb1, h⟩
    rw [hob.2.1] at h
    rcases h with ⟨h0, _⟩ | ⟨_, gd, pa, pc, ea, ec, h1, h2, h3⟩
    · exact absurd rfl h0
    · rw [hob.2.2.1, hob.2.2.2.1, hob.2.2.2.2.1, y5] at h3
      exact ⟨gd, pa, pc, ea, ec, h2, h3, hb1⟩
  have hE := hob.2.2.2.2.2
  have hget : ∀ W gd pa pc ea ec, DictM W gd 3 (widthD exL).toNat pa pc (packD exL) ea ec (nums (hdE b)) → Calls Try.prog 25 #[.pointer (some ⟨gd, 0, none⟩), .int .i64 1] W fun e w' => e = .returned (.tuple #[.string ⟨#[97, 98]⟩, .bool true]) ∧ Below W.heap.size W w' := fun W gd pa pc ea ec hD => by
    have := get_calls W gd 3 _ pa pc _ ea ec _ hD 1 ⟨by decide, by decide⟩
    have e := get_built hG hE 1
    rw [y5] at e
    rw [e] at this
    exact this
  have hfind : ∀ W gd pa pc ea ec, DictM W gd 3 (widthD exL).toNat pa pc (packD exL) ea ec (nums (hdE b)) → Calls Try.prog 26 #[.pointer (some ⟨gd, 0, none⟩), .string ⟨#[97, 97]⟩] W fun e w' => e = .returned (.tuple #[.int .i64 1, .bool false]) ∧ Below W.heap.size W w' := fun W gd pa pc ea ec hD => by
    have := find_calls W gd 3 _ pa pc _ ea ec _ hD ⟨#[97, 97]⟩
    have e := find_built hG hE [97, 97]
    rw [y5, y1, y4] at e
    rw [show (⟨#[97, 97]⟩ : ByteArray).data.toList = [97, 97] from rfl, e] at this
    exact this
  have hrange : ∀ W gd pa pc ea ec, DictM W gd 3 (widthD exL).toNat pa pc (packD exL) ea ec (nums (hdE b)) → Calls Try.prog 27 #[.pointer (some ⟨gd, 0, none⟩), .string ⟨#[97]⟩] W fun e w' => e = .returned (.tuple #[.int .i64 0, .int .i64 2]) ∧ Below W.heap.size W w' := fun W gd pa pc ea ec hD => by
    have := range_calls W gd 3 _ pa pc _ ea ec _ hD ⟨#[97]⟩
    have e := range_built hG hE [97]
    rw [y5, y2, y3] at e
    rw [show (⟨#[97]⟩ : ByteArray).data.toList = [97] from rfl, e] at this
    exact this
  have H1 := Lib.hid hbl1
  have H2 := Lib.hid hbl2
  have HO := Lib.hid hop
  have HG := Lib.hid hget
  have HF := Lib.hid hfind
  have HR := Lib.hid hrange
  clear hbl1 hbl2 hop hget hfind hrange hob hbz hb hG hE x1 x2 x3 x4 y1 y2 y3 y4 y5
  go_enter Try.func22, Try.ntmps22
  go_upto_region 3 with (first
    | (go_at_call 11; (with_reducible refine (H1.out _ _ (heap_alloc_new _ _)).mono ?_); rintro e w1 ⟨x1, rfl, hs1, hn1, ha1, hb1⟩; (have HS1 := Lib.hid hs1); (have HN1 := Lib.hid hn1); (have HA1 := Lib.hid ha1); (have HB1 := Lib.hid hb1); clear hs1 hn1 ha1 hb1)
    | (go_at_call 11; (with_reducible refine (H2.out _ _ (heap_alloc_new _ _)).mono ?_); rintro e w2 ⟨v2, rfl, hb2⟩; (have HB2 := Lib.hid hb2); clear hb2))
  have b1 : Below w.heap.size w w1 := ((Below.refl _ w).alloc (Nat.le_refl _) _).trans (HB1.out.mono (by simp))
  have b12 : Below w1.heap.size w1 w2 := ((Below.refl _ w1).alloc (Nat.le_refl _) _).trans (HB2.out.mono (by simp))
  have b2 : Below w.heap.size w w2 := b1.trans (b12.mono b1.size)
  have hs2 := HS1.out.keep b12
  have ha2 : ∀ y, x1 = some y → y.block < w2.heap.size := fun y hy => Nat.lt_of_lt_of_le (HA1.out y hy) b12.size
  have HS2 := Lib.hid hs2
  have HA2 := Lib.hid ha2
  have HB := Lib.hid b2
  clear b1 b12 b2 hs2 ha2 HS1 HA1 HB1 HB2 H1 H2
  go_upto_region 4 with (go_at_call 18; (with_reducible refine (HO.out _ _ HS2.out HN1.out HA2.out).mono ?_); rintro e w3 ⟨gd, pa, pc, ea, ec, rfl, hd3, hb3⟩; (have HD3 := Lib.hid hd3); (have HB3 := Lib.hid (HB.out.trans (hb3.mono HB.out.size))); clear hd3 hb3)
  go_upto_region 6 with (first
    | (go_at_call 13; refine (numD_calls _ _).mono ?_; rintro e x ⟨rfl, rfl⟩)
    | (go_at_call 24; refine (dlen_calls _ _ _ _ _ _ _ _ _ _ HD3.out).mono ?_; rintro e x ⟨rfl, rfl⟩))
  go_upto_region 7 with (go_at_call 25; (with_reducible refine (HG.out _ _ _ _ _ _ HD3.out).mono ?_); rintro e w4 ⟨rfl, hb4⟩; (have HD4 := Lib.hid (HD3.out.keep hb4)); (have HB4 := Lib.hid (HB3.out.trans (hb4.mono HB3.out.size))); clear hb4)
  go_upto_region 8 with (go_at_call 26; (with_reducible refine (HF.out _ _ _ _ _ _ HD4.out).mono ?_); rintro e w5 ⟨rfl, hb5⟩; (have HD5 := Lib.hid (HD4.out.keep hb5)); (have HB5 := Lib.hid (HB4.out.trans (hb5.mono HB4.out.size))); clear hb5)
  go_upto_region 9 with (go_at_call 27; (with_reducible refine (HR.out _ _ _ _ _ _ HD5.out).mono ?_); rintro e w6 ⟨rfl, hb6⟩; (have HB6 := Lib.hid (HB5.out.trans (hb6.mono HB5.out.size))); clear hb6)
  go_wp2
  go_ret
  exact ⟨by simp, HB6.out⟩
end Go.Proofs.Ytjgcmnppiaikcaa
