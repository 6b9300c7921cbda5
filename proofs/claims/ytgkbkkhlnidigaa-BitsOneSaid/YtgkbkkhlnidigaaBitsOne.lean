/- BitsOne: what is read is what the same calls write. -/
import Derived.Test.YtgkbkkhlnidigaaBitsOneA
import Derived.Test.YtgkbkkhlnidigaaBitsRdI
import Derived.Deep.DeepCutAuto
import Derived.Deep.CutBlock
namespace Go.Proofs.Ytgkbkkhlnidigaa
open Go.RowKit Go.Tk
set_option maxRecDepth 100000 in
set_option maxHeartbeats 2000000 in
theorem one_calls (W : World) (a : Option Addr) (cap : Nat) (z : List Int) (oa : Option Addr) (on oc : Nat) (ops : Nat → OpV) (hx : SlI .u8 W a z.length cap z) (h : OpsAt W oa on oc ops)
    (hzn : z.length ≤ 140737488351232) (ha0 : a = none → cap = 0) (hab : ∀ x, a = some x → x.block < W.heap.size) (hz : ∀ x ∈ z, 0 ≤ x ∧ x < 256) :
    Calls Try.prog 8 #[.slice a z.length cap, .slice oa on oc] W fun e w' => e = .returned (.bool true) ∧ Below W.heap.size W w' := by
  have mx := hx.max
  have lx := hx.le
  have mo := h.max
  have lo := h.le
  have HX := Lib.hid hx
  have HO := Lib.hid h
  have HA := Lib.hid ha0
  have HAB := Lib.hid hab
  have HZ := Lib.hid hz
  clear hx h ha0 hab hz
  go_enter Try.func8, Try.ntmps8
  go_wp2_with (first
    | (go_at_call 30; refine (awake_calls _).mono ?_; rintro e w1 ⟨rfl, k1⟩)
    | (go_at_call 23; refine (read_eq _ _ _ _).mono ?_; rintro e w2 ⟨rfl, rfl⟩)
    | (go_at_call 19; refine (new_eq _ z.length (by omega) (by omega)).mono ?_; rintro e w3 ⟨rfl, rfl⟩))
  have i0 : OneI W ((w1.alloc (newC a z.length cap)).alloc (newB z.length)) (w1.heap.size + 1) w1.heap.size z.length (z.take 0, false) (.slice none 0 0) a cap z 0 0 := by
    have hs := k1.size
    have kc : Kept (fun _ => False) w1 (w1.alloc (newC a z.length cap)) := (Kept.refl _ _).alloc _
    have kb : Kept (fun _ => False) (w1.alloc (newC a z.length cap)) ((w1.alloc (newC a z.length cap)).alloc (newB z.length)) := (Kept.refl _ _).alloc _
    have kw := (k1.trans kc (fun _ h => h.elim)).trans kb (fun _ h => h.elim)
    have hB := one_new (w1.alloc (newC a z.length cap)) W.heap.size (by simp; omega) z.length (by omega)
    have e1 : (w1.alloc (newC a z.length cap)).heap.size = w1.heap.size + 1 := by simp
    rw [e1] at hB
    have n1 : (w1.alloc (newC a z.length cap)).heap[w1.heap.size]? = some (newC a z.length cap) := by show (w1.heap.push _)[w1.heap.size]? = _; rw [Array.getElem?_push, if_pos rfl]
    refine ⟨hB, ⟨kb.lt_some n1 id, HX.out.kept kw (fun _ _ => id), HA.out, fun x hx => ?_, Nat.zero_le _⟩, by omega, by simp [Value.ownBlock], fun x hx => ?_, hs, kw.below (Nat.le_refl _) (fun _ h => h.elim)⟩
    · have := HAB.out x hx; omega
    · have := HAB.out x hx; exact ⟨by simp; omega, by omega, by simp [Value.ownBlock]⟩
  generalize ((w1.alloc (newC a z.length cap)).alloc (newB z.length)) = w0 at *
  generalize w1.heap.size + 1 = p at *
  generalize w1.heap.size = c at *
  clear k1
  go_loopw [7] (fun iv wr => ∃ (j i : Nat) (e : Int) (v : Value), iv = .int .i64 j ∧ j ≤ on ∧ OneI W wr p c z.length (z.take i, false) v a cap z i e) (fun iv _ => on - (intOf iv).toNat)
  case atStart => exact ⟨0, 0, 0, _, rfl, by omega, i0⟩
  case round =>
    obtain ⟨j, i, e, v, rfl, hj, hI⟩ := hrel
    clear i0
    have hi := hI.C.le
    by_cases hm : j < on
    · obtain ⟨b, o, rfl, hop⟩ := HO.out.at_ j hm
      generalize ops j = opv at *
      have hop' := hop.below hI.bel
      have c0 := hop'.c0
      have c2 := hop'.c2
      clear hop'
      go_upto_block 2 with fail
      go_cut [7] (fun s7 wx => s7 = .int .i64 j ∧ ∃ (i : Nat) (e : Int) (v : Value), OneI W wx p c z.length (z.take i, false) v a cap z i e)
      case first =>
        by_cases h1 : opv.kind = 1
        · have b1 : (opv.kind == 1) = true := by simp [h1]
          clear h1
          have T := tk_two z i e 1 hi
          have R := cbyte_calls wr c a cap z i e hI.C
          generalize tk z i e 1 = t at *
          obtain ⟨l, i2, e2⟩ := t
          obtain ⟨hl, T⟩ := T
          simp only at hl T R
          by_cases he : e2 = 0
          · subst he
            rcases T with ⟨h, _⟩ | ⟨_, _, h1, h2, h3⟩
            · exact absurd rfl h
            obtain ⟨x, rfl⟩ : ∃ x, l = [x] := List.length_eq_one_iff.1 (by simpa using h1)
            have P := putF_on z i i2 h2 hl [x] h3
            have P9 := Lib.hid P
            clear P h3 h1
            go_wp2_with (first
              | (go_at_call 38; refine R.mono ?_; rintro e9 w2 ⟨rfl, hC, hk⟩; have hI1 := hI.cur hC hk; clear hC hk)
              | (go_at_call 26; refine (err_calls _ c a cap z _ _ hI1.C).mono ?_; rintro e9 w9 ⟨rfl, rfl⟩)
              | (go_at_call 32; refine (byte_calls _ W.heap.size p z.length (z.take i, false) v hI1.B x (by omega) (by omega) (by simp; omega)).mono ?_; rw [P9.out]; rintro e9 w3 hp; obtain ⟨v2, rfl, hI2⟩ := hI1.put hp; clear hp))
            go_meet
            exact ⟨rfl, i2, 0, v2, hI2⟩
          · have hef : (e2 == 0) = false := by simp [he]
            have h4 : i2 = i := by
              rcases T with ⟨_, h, _⟩ | ⟨h, _⟩
              · exact h
              · exact absurd h he
            subst h4
            clear T
            go_wp2_with (first
              | (go_at_call 38; refine R.mono ?_; rintro e9 w2 ⟨rfl, hC, hk⟩; have hI1 := hI.cur hC hk; clear hC hk)
              | (go_at_call 26; refine (err_calls _ c a cap z _ _ hI1.C).mono ?_; rintro e9 w9 ⟨rfl, rfl⟩))
            go_meet
            exact ⟨rfl, i2, e2, v, hI1⟩
        by_cases h2 : opv.kind = 2
        · have b2 : (opv.kind == 2) = true := by simp [h2]
          have n1 : (opv.kind == 1) = false := by simp [h1]
          clear h1 h2
          have T := tk_two z i e opv.k hi
          have R := craw_calls wr c a cap z i e opv.k hI.C (fun x hx => (hI.na x hx).1) (by omega)
          generalize tk z i e opv.k = t at *
          obtain ⟨l, i2, e2⟩ := t
          obtain ⟨hl, T⟩ := T
          simp only at hl T R
          have P : i ≤ i2 ∧ (z.drop i).take (i2 - i) = l := by
            rcases T with ⟨_, h2, h3⟩ | ⟨_, _, _, h2, h3⟩
            · subst h2 h3; simp
            · exact ⟨h2, h3⟩
          have hll : l.length ≤ z.length - i := by rw [← P.2]; simp; omega
          have P9 := Lib.hid (putF_on z i i2 P.1 hl l P.2)
          clear P T
          go_wp2_with (first
            | (go_at_call 39; refine R.mono ?_; rintro e9 w2 ⟨v7, rfl, o7, hC, hk⟩; have hI1 := hI.cur hC hk; obtain ⟨va, vc, rfl, s7, _⟩ := o7.sl; have n7 : va = none → vc = 0 := (fun e => by subst e; exact o7.nil_cap); have N7 := Lib.hid n7; clear n7 o7 hC hk)
            | (go_at_call 33; refine (raw_calls _ W.heap.size p z.length (z.take i, false) v hI1.B _ _ _ l s7 N7.out (by omega) (by omega) (by simp; omega)).mono ?_; rw [P9.out]; rintro e9 w3 hp; obtain ⟨v2, rfl, hI2⟩ := hI1.put hp; clear hp))
          go_meet
          exact ⟨rfl, i2, e2, v2, hI2⟩
        by_cases h3 : opv.kind = 3
        · have b3 : (opv.kind == 3) = true := by simp [h3]
          have n1 : (opv.kind == 1) = false := by simp [h1]
          have n2 : (opv.kind == 2) = false := by simp [h2]
          clear h1 h2 h3
          have T := upS_one z HZ.out i e 18446744073709551615 hi
          have R := cvarint_calls wr c a cap z i e hI.C HZ.out
          generalize upS z i e 18446744073709551615 = t at *
          obtain ⟨n, i2, e2⟩ := t
          obtain ⟨hl, T⟩ := T
          simp only at hl T R
          by_cases he : e2 = 0
          · subst he
            rcases T with ⟨h, _⟩ | ⟨_, g0, g1, g2, g3⟩
            · exact absurd rfl h
            have P9 := Lib.hid (putF_on z i i2 g2 hl (vz n) g3)
            clear g3
            go_wp2_with (first
              | (go_at_call 40; refine R.mono ?_; rintro e9 w2 ⟨rfl, hC, hk⟩; have hI1 := hI.cur hC hk; clear hC hk)
              | (go_at_call 26; refine (err_calls _ c a cap z _ _ hI1.C).mono ?_; rintro e9 w9 ⟨rfl, rfl⟩)
              | (go_at_call 34; refine (varint_calls _ W.heap.size p z.length (z.take i, false) v hI1.B n g0 g1 (by omega) (by omega) (by simp; omega)).mono ?_; rw [P9.out]; rintro e9 w3 hp; obtain ⟨v2, rfl, hI2⟩ := hI1.put hp; clear hp))
            go_meet
            exact ⟨rfl, i2, 0, v2, hI2⟩
          · have hef : (e2 == 0) = false := by simp [he]
            have h4 : i2 = i := by
              rcases T with ⟨_, h⟩ | ⟨h, _⟩
              · exact h
              · exact absurd h he
            subst h4
            clear T
            go_wp2_with (first
              | (go_at_call 40; refine R.mono ?_; rintro e9 w2 ⟨rfl, hC, hk⟩; have hI1 := hI.cur hC hk; clear hC hk)
              | (go_at_call 26; refine (err_calls _ c a cap z _ _ hI1.C).mono ?_; rintro e9 w9 ⟨rfl, rfl⟩))
            go_meet
            exact ⟨rfl, i2, e2, v, hI1⟩
        by_cases h4 : opv.kind = 4
        · have b4 : (opv.kind == 4) = true := by simp [h4]
          have n1 : (opv.kind == 1) = false := by simp [h1]
          have n2 : (opv.kind == 2) = false := by simp [h2]
          have n3 : (opv.kind == 3) = false := by simp [h3]
          clear h1 h2 h3 h4
          have T := tk_two z i e (oct opv.k : Nat) hi
          have R := cfixed_calls wr c a cap z i e opv.k hI.C hop.kkr.1 hop.kkr.2 HZ.out
          have ho := oct_le opv.k
          have Z1 : ∀ x ∈ (tk z i e (oct opv.k : Nat)).1, 0 ≤ x ∧ x < 256 := (tk_fix z i e (oct opv.k) HZ.out).2
          generalize tk z i e (oct opv.k : Nat) = t at *
          obtain ⟨l, i2, e2⟩ := t
          obtain ⟨hl, T⟩ := T
          simp only at hl T R Z1
          by_cases he : e2 = 0
          · subst he
            rcases T with ⟨h, _⟩ | ⟨_, _, g1, g2, g3⟩
            · exact absurd rfl h
            have gl : l.length = oct opv.k := by simpa using g1
            obtain ⟨f0, f1, f2⟩ := fx_fz l Z1 l.length (Nat.le_refl _) (by omega)
            rw [List.take_of_length_le (Nat.le_refl _)] at f2
            have f3 : fxA l l.length < 18446744073709551616 := by
              have : (2 : Int) ^ (8 * l.length) ≤ 18446744073709551616 := by
                rcases pw l.length (by omega) with h | h | h | h | h | h | h | h | h | h <;> first | omega | (rw [h]; decide)
              omega
            have f4 : fz (fxA l l.length) (oct opv.k) = l := by rw [← gl]; exact f2
            have P9 := Lib.hid (putF_on z i i2 g2 hl _ (g3.trans f4.symm))
            have kr := hop.kkr
            clear g3 g1 f1 f2 f4 Z1 gl
            generalize fxA l l.length = n at *
            go_wp2_with (first
              | (go_at_call 41; refine R.mono ?_; rintro e9 w2 ⟨rfl, hC, hk⟩; have hI1 := hI.cur hC hk; have d2 := (hop.below hI1.bel).c2; clear hC hk)
              | (go_at_call 26; refine (err_calls _ c a cap z _ _ hI1.C).mono ?_; rintro e9 w9 ⟨rfl, rfl⟩)
              | (go_at_call 35; refine (fixed_calls _ W.heap.size p z.length (z.take i, false) v hI1.B n opv.k f0 f3 kr.1 kr.2 (by omega) (by omega) (by simp; omega)).mono ?_; rw [P9.out]; rintro e9 w3 hp; obtain ⟨v2, rfl, hI2⟩ := hI1.put hp; clear hp))
            go_meet
            exact ⟨rfl, i2, 0, v2, hI2⟩
          · have hef : (e2 == 0) = false := by simp [he]
            have h4 : i2 = i := by
              rcases T with ⟨_, h, _⟩ | ⟨h, _⟩
              · exact h
              · exact absurd h he
            subst h4
            clear T
            go_wp2_with (first
              | (go_at_call 41; refine R.mono ?_; rintro e9 w2 ⟨rfl, hC, hk⟩; have hI1 := hI.cur hC hk; have d2 := (hop.below hI1.bel).c2; clear hC hk)
              | (go_at_call 26; refine (err_calls _ c a cap z _ _ hI1.C).mono ?_; rintro e9 w9 ⟨rfl, rfl⟩))
            go_meet
            exact ⟨rfl, i2, e2, v, hI1⟩
        have n1 : (opv.kind == 1) = false := by simp [h1]
        have n2 : (opv.kind == 2) = false := by simp [h2]
        have n3 : (opv.kind == 3) = false := by simp [h3]
        have n4 : (opv.kind == 4) = false := by simp [h4]
        clear h1 h2 h3 h4
        go_wp2_with fail
        go_meet
        exact ⟨rfl, i, e, v, hI⟩
      case rest =>
        rename World => wx
        obtain ⟨rfl, i', e', v', hI'⟩ := hcut
        have hi' := hI'.C.le
        have el : (z.take i').length = i' := by simp; omega
        have hsum : (((i' : Int) + ((z.length : Int) - (i' : Int))) != (z.length : Int)) = false := by simp; omega
        have j0 : (0 : Int) ≤ (i' : Int) := by omega
        have j1 : (i' : Int) ≤ (cap : Int) := by omega
        have EL := Lib.hid el
        clear el hI c0 c2
        go_wp2_with (first
          | (go_at_call 36; refine (bytes_calls _ W.heap.size p z.length (z.take i', false) v' hI'.B (by simp; omega)).mono ?_; rintro e9 w3 ⟨v3, rfl, o3, k3⟩; have hI3 := hI'.keep k3; rw [if_neg (by simp)] at o3; obtain ⟨xa, rfl, s3⟩ := o3.sl; dsimp only at s3 ⊢; rw [EL.out] at s3 ⊢; clear k3 o3)
          | (go_at_call 24; refine (at_calls _ c a cap z i' e' (by first | exact hI3.C | exact hI4.C)).mono ?_; rintro e9 w9 ⟨rfl, rfl⟩)
          | (go_at_call 25; refine (left_calls _ c a cap z i' e' hI3.C).mono ?_; rintro e9 w9 ⟨rfl, n4, rfl⟩; have hI4 := hI3.drewN n4; have s4 := s3.drewN n4; clear s3)
          | (go_at_call 16; refine (same_calls _ _ _ _ (z.take i') _ _ _ (z.take i') s4 (hI4.C.sl.pre i' hi')).mono ?_; rintro e9 w9 ⟨rfl, n5, rfl⟩; rw [sameB_self]))
        go_roundw
        case rel => exact ⟨j + 1, i', e', v', by simp, by omega, hI3.drewN (n4 + n5)⟩
        case measure => simp [intOf]; omega
    · have arms : True := trivial
      by_cases he : e = 0
      · by_cases hz : i < z.length
        · have hE : endE z.length i e = 13 := by unfold endE; rw [if_pos ⟨he, hz⟩]
          have hL : (((z.length : Int) - (i : Int)) == 0) = false := by simp; omega
          have HE := Lib.hid hE
          subst he
          clear hE
          go_wp2_with (first
            | (go_at_call 28; refine (end_calls _ c a cap z i _ hI.C).mono ?_; rw [HE.out]; rintro e9 w9 ⟨rfl, n4, rfl⟩; have hI4 := hI.drewN n4)
            | (go_at_call 26; refine (err_calls _ c a cap z i _ hI4.C).mono ?_; rintro e9 w9 ⟨rfl, rfl⟩)
            | (go_at_call 25; refine (left_calls _ c a cap z i _ hI4.C).mono ?_; rintro e9 w9 ⟨rfl, n5, rfl⟩))
          go_ret
          exact ⟨rfl, (hI.drewN (n4 + n5)).bel⟩
        · have hE : endE z.length i e = 0 := by unfold endE; rw [if_neg (fun h => hz h.2)]; exact he
          have hL : (((z.length : Int) - (i : Int)) == 0) = true := by simp; omega
          have HE := Lib.hid hE
          subst he
          clear hE
          go_wp2_with (first
            | (go_at_call 28; refine (end_calls _ c a cap z i _ hI.C).mono ?_; rw [HE.out]; rintro e9 w9 ⟨rfl, n4, rfl⟩; have hI4 := hI.drewN n4)
            | (go_at_call 26; refine (err_calls _ c a cap z i _ hI4.C).mono ?_; rintro e9 w9 ⟨rfl, rfl⟩)
            | (go_at_call 25; refine (left_calls _ c a cap z i _ hI4.C).mono ?_; rintro e9 w9 ⟨rfl, n5, rfl⟩))
          go_ret
          exact ⟨rfl, (hI.drewN (n4 + n5)).bel⟩
      · have hE : endE z.length i e = e := by unfold endE; rw [if_neg (fun h => he h.1)]
        have hef : (e == 0) = false := by simp [he]
        have HE := Lib.hid hE
        clear hE he
        go_wp2_with (first
          | (go_at_call 28; refine (end_calls _ c a cap z i _ hI.C).mono ?_; rw [HE.out]; rintro e9 w9 ⟨rfl, n4, rfl⟩; have hI4 := hI.drewN n4)
          | (go_at_call 26; refine (err_calls _ c a cap z i _ hI4.C).mono ?_; rintro e9 w9 ⟨rfl, rfl⟩))
        go_ret
        exact ⟨rfl, hI4.bel⟩
end Go.Proofs.Ytgkbkkhlnidigaa
