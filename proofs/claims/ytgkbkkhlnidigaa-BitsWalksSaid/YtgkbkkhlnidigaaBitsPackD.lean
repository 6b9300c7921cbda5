/- BitsPacks: every Width and Pack; the list stays as it is, the answer is new memory. -/
import Derived.Test.YtgkbkkhlnidigaaBitsPackC
import Derived.Test.YtgkbkkhlnidigaaSamesame
import Derived.Test.YtgkbkkhlnidigaaOpen
set_option linter.unusedVariables false
set_option linter.unusedSimpArgs false
namespace Go.Proofs.Ytgkbkkhlnidigaa
open Go.RowKit Go.Tk
/-- Do the numbers fit? -/
def packOk (zs : List Int) (wd : Int) : Bool := decide (0 ≤ wd ∧ wd ≤ 64) && !anyW zs wd
def packOut (zs : List Int) (wd : Int) : List Int := if packOk zs wd = true then packTo zs wd.toNat ((zs.length * wd.toNat + 7) / 8) zs.length else []
def packErr (zs : List Int) (wd : Int) : Int := if packOk zs wd = true then 0 else 14
theorem packErr_range (zs : List Int) (wd : Int) : 0 ≤ packErr zs wd ∧ packErr zs wd ≤ 14 := by unfold packErr; split <;> omega
/-- What Pack hands back. -/
def PackSays (w : World) (zs : List Int) (wd : Int) (e : Ending) (w' : World) : Prop :=
  ∃ v, e = .returned (.tuple #[v, .int .i64 (packErr zs wd)]) ∧ Ow .u8 5 w.heap.size w' v (packOut zs wd) ∧ Below w.heap.size w w'
theorem says_of_post {w : World} {zs : List Int} {wd : Int} {n : Nat} {e : Ending} {w' : World} (hn : zs.length = n) (hn2 : n ≤ 17592186044416) (h0 : 0 ≤ wd) (h1 : wd ≤ 64) (ha : anyW zs wd = false) (h : PackPost w zs wd n e w') : PackSays w zs wd e w' := by
  obtain ⟨d, R, g, rfl, hR, rfl, hf⟩ := h
  have hok : packOk zs (d : Int) = true := by simp [packOk, h0, h1, ha]
  have ho : packOut zs (d : Int) = packTo zs d R n := by
    unfold packOut
    rw [if_pos hok, Int.toNat_natCast, hn, ← hR]
  have hnd : n * d ≤ n * 64 := Nat.mul_le_mul_left n (by omega)
  refine ⟨_, by unfold packErr; rw [if_pos hok], ?_, hf.below⟩
  rw [ho]
  have := hf.row.ow hf.new (by rw [packTo_len]; omega)
  rwa [packTo_len] at this
theorem says_of_no {w : World} {zs : List Int} {wd : Int} {e : Ending} {w' : World} (hok : packOk zs wd = false) (h : e = .returned (.tuple #[.slice none 0 0, .int .i64 14]) ∧ Below w.heap.size w w') : PackSays w zs wd e w' := by
  refine ⟨.slice none 0 0, ?_, ?_, h.2⟩
  · rw [h.1]; unfold packErr; rw [hok]; rfl
  · unfold packOut; rw [hok]; exact Ow.nil _ _ _ _
theorem pack_calls (w : World) (a : Option Addr) (n c : Nat) (zs : List Int) (h : SlI .u64 w a n c zs) (hu : U64 zs) (wd : Int) (hn : n ≤ 17592186044416) :
    Calls Try.prog 14 #[.slice a n c, .int .i64 wd] w (PackSays w zs wd) := by
  by_cases hf : 0 ≤ wd ∧ wd ≤ 64
  · cases ha : anyW zs wd with
    | true => exact (pack_no w a n c zs h hu wd (.inr ha)).mono fun e w' hh => says_of_no (by simp [packOk, ha]) hh
    | false => exact (pack_yes w a n c zs h hu wd hf.1 hf.2 ha hn).mono fun e w' hh => says_of_post h.len hn hf.1 hf.2 ha hh
  · exact (pack_no w a n c zs h hu wd (.inl hf)).mono fun e w' hh => says_of_no (by simp [packOk]; intro h1 h2; exact absurd ⟨h1, h2⟩ hf) hh
theorem rpack_calls (w : World) (a : Option Addr) (n c : Nat) (zs : List Int) (h : SlI .u64 w a n c zs) (hu : U64 zs) (wd : Int) (hn : n ≤ 17592186044416) :
    Calls Try.prog 15 #[.slice a n c, .int .i64 wd] w (PackSays w zs wd) := by
  by_cases hf : 0 ≤ wd ∧ wd ≤ 64
  · obtain ⟨d, rfl⟩ := Int.eq_ofNat_of_zero_le hf.1
    refine (rpack_yes w a n c zs h hu d (by omega) hn).mono fun e w' hh => ?_
    cases ha : anyW zs (d : Int) with
    | true => exact says_of_no (by simp [packOk, ha]) (hh.1 ha)
    | false => exact says_of_post h.len hn hf.1 hf.2 ha (hh.2 ha)
  · exact (rpack_bad w a n c wd hf).mono fun e w' hh => says_of_no (by simp [packOk]; intro h1 h2; exact absurd ⟨h1, h2⟩ hf) hh
set_option maxHeartbeats 2000000 in
set_option maxRecDepth 100000 in
theorem bitspacks_go (w : World) (a : Option Addr) (n c : Nat) (z : List Int) (hrow : IsRow .u64 w a n c z) (hb : c * 8 ≤ 140737488351232) (wd : Int) (hwd : (Lit.int .i64 wd).wf = true) :
    Calls Try.prog 4 #[.slice a n c, .int .i64 wd] w fun e w' => e = .returned (.bool true) ∧ Below w.heap.size w w' := by
  obtain ⟨hs, hnil, hwf⟩ := hrow.sl
  obtain ⟨zs, hzs⟩ : ∃ zs, zs = z.take n := ⟨_, rfl⟩
  rw [← hzs] at hs hwf
  have hu : U64 zs := fun i hi => by
    have := wf_u64 (hwf zs[i] (List.getElem_mem hi))
    simpa [hi] using this
  have hl := hs.len
  have hnc := hs.le
  have HL := Lib.hid hl
  obtain ⟨i0, hi, hz0, hz1, hz2⟩ := info_parts Try.infoU64
  have hbn : n ≤ 17592186044416 := by omega
  have o0 : Ow .u64 35 w.heap.size (w.alloc (.cells #[] 35)) (.slice (some ⟨w.heap.size, 0, none⟩) 0 0) [] := RowI.ow (zs := []) (g := w.heap.size) (heap_alloc_new w _) (Nat.le_refl _) (by simp)
  have HN := Lib.hid hnil
  clear hzs hwf hrow hl hnil hwd
  go_enter Try.func4, Try.ntmps4
  go_wp2_with (first
    | (at_builtin; refine wpList_appI rfl (.tmp 14) (.tmp 15) _ rfl .u64 w.heap.size 35 i0 _ 8 Try.underlying29 hi hz0 hz1 hz2 rfl _ [] rfl o0 _ _ _ zs rfl (hs.alloc _) HN.out (by simp; omega) (by simp; omega) (by simp) ?_; intro v1 w1 ow1 hg1 st1)
    | (at_builtin; refine wpList_appI rfl (.tmp 16) (.tmp 17) _ rfl .u64 w.heap.size 35 i0 _ 8 Try.underlying29 hi hz0 hz1 hz2 rfl _ zs rfl (ow1.alloc _) _ 1 1 [7] rfl (SlI.one _ _ _ _) (by simp) (by rw [HL.out]; omega) (by rw [HL.out]; omega) (by have := hg1.size; simp at this ⊢; omega) ?_; intro v2 w2 ow2 hg2 st2; obtain ⟨a2, c2, rfl, s2, hs2⟩ := ow2.sl; obtain ⟨g2, rfl, gb, gl, g7, gf, gs⟩ := ow2.at zs.length (by simp); have e7 : (zs ++ [7]).length = n + 1 := (by rw [List.length_append, HL.out]; rfl); rw [e7] at s2 ow2 ⊢; have E7 := Lib.hid e7; have hc2 := s2.le; have hm2 := s2.max; clear e7 gs))
  have zw1 := hg1.size
  have bw1 : Below w.heap.size w w1 := ((Below.refl w.heap.size w).alloc (Nat.le_refl _) _).trans (below_of_grown hg1 (by simp) (fun g hg => Nat.le_of_eq (Option.some.inj hg)))
  have bw2 : Below w.heap.size w w2 := (bw1.trans ((Below.refl w.heap.size w1).alloc bw1.size _)).trans (below_of_grown hg2 (by have := bw1.size; simp; omega) (fun g hg => (ow1.lt g hg).1))
  have sown := s2.pre n (by omega)
  have ezs : (zs ++ [7]).take n = zs := by rw [List.take_append_of_le_length (by rw [HL.out]; omega), List.take_of_length_le (by rw [HL.out]; omega)]
  rw [ezs] at sown
  refine (pack_calls _ _ _ _ _ sown hu wd hbn).mono ?_
  rintro e w3 ⟨va, rfl, owa, ba⟩
  obtain ⟨aa, ca, rfl, sa, hsa⟩ := owa.sl
  have per := packErr_range zs wd
  obtain ⟨pe, hpe⟩ : ∃ pe, pe = packErr zs wd := ⟨_, rfl⟩
  obtain ⟨po, hpo⟩ : ∃ po, po = packOut zs wd := ⟨_, rfl⟩
  have sown3 := sown.keep ba
  go_wp2_with fail
  refine (pack_calls _ _ _ _ _ sown3 hu wd hbn).mono ?_
  rintro e w4 ⟨vb, rfl, owb, bb⟩
  obtain ⟨ab, cb, rfl, sb, hsb⟩ := owb.sl
  have hs4 : SlI .u64 w4 a n c zs := (hs.keep bw2).keep ba |>.keep bb
  go_wp2_with fail
  refine (rpack_calls _ _ _ _ _ hs4 hu wd hbn).mono ?_
  rintro e w5 ⟨vc, rfl, owc, bc⟩
  obtain ⟨ac, cc, rfl, sc, hsc⟩ := owc.sl
  have sa5 := (sa.keep bb).keep bc
  have sb5 := sb.keep bc
  rw [← hpe]
  rw [← hpo] at sa5 sb5 sc owa owb owc ⊢
  rw [← hpe] at per
  have HPE := Lib.hid hpe
  have HPO := Lib.hid hpo
  clear hpe hpo
  go_wp2_with fail
  refine (same_calls _ _ _ _ _ _ _ _ _ sa5 sc).mono ?_
  rintro e w' ⟨rfl, q1, rfl⟩
  rw [sameB_yes rfl]
  go_wp2_with fail
  refine (same_calls _ _ _ _ _ _ _ _ _ (sb5.drewN _) (sc.drewN _)).mono ?_
  rintro e w' ⟨rfl, q2, rfl⟩
  rw [sameB_yes rfl]
  have k2 : w2.heap.size ≤ w3.heap.size := ba.size
  have k3 : w3.heap.size ≤ w4.heap.size := bb.size
  have k4 : w4.heap.size ≤ w5.heap.size := bc.size
  have g75 : (w5.drewN (q1 + q2)).cell? ⟨g2, n, none⟩ = some (.int .u64 7) := by
    have h1 : w5.cell? ⟨g2, n, none⟩ = w2.cell? ⟨g2, n, none⟩ := (bc.cell (p := ⟨g2, n, none⟩) (by simp; omega)).trans ((bb.cell (p := ⟨g2, n, none⟩) (by simp; omega)).trans (ba.cell (p := ⟨g2, n, none⟩) gl))
    have h2 : zs.length = n := HL.out
    rw [h2] at g7
    show w5.cell? _ = _
    rw [h1, g7]
    simp [h2]
  go_wp2_with fail
  have sown5 := ((sown3.keep bb).keep bc).drewN (q1 + q2)
  have hs5 := (hs4.keep bc).drewN (q1 + q2)
  have b5 : Below w.heap.size w (w5.drewN (q1 + q2)) := below_drewN (((bw2.trans (ba.mono bw2.size)).trans (bb.mono (by have := bw2.size; omega))).trans (bc.mono (by have := bw2.size; omega))) _
  have sb6 := sb5.drewN (q1 + q2)
  have sc6 := sc.drewN (q1 + q2)
  have owa5 : Ow .u8 5 w2.heap.size (w5.drewN (q1 + q2)) (.slice aa po.length ca) po := ((owa.below bb (fun g hg => (owa.lt g hg).2)).below bc (fun g hg => by have := (owa.lt g hg).2; omega)).drewN _
  have hbb : ∀ x, ab = some x → some x.block ≠ (Value.slice aa po.length ca).ownBlock := fun x hx e => by
    have h1 := (hsb x hx).1
    have h2 := (owa.lt x.block e.symm).2
    omega
  have hcb : ∀ x, ac = some x → some x.block ≠ (Value.slice aa po.length ca).ownBlock := fun x hx e => by
    have h1 := (hsc x hx).1
    have h2 := (owa.lt x.block e.symm).2
    omega
  have hz5 : w2.heap.size ≤ (w5.drewN (q1 + q2)).heap.size := by show w2.heap.size ≤ w5.heap.size; omega
  have k0 : w.heap.size ≤ w2.heap.size := bw2.size
  have hpl : po.length ≤ 9223372036854775807 := Nat.le_trans sa5.le sa5.max
  clear g75 sa5 sb5 sc sa sb sown sown3 hs4 owa owb owc ow1 ow2 o0 hg1 hg2 st1 st2 bw1 bw2 ba bb bc g7 gf hs s2 hs2 hsa hsb hsc zw1 k2 k3 k4
  generalize w5.drewN (q1 + q2) = w6 at *
  go_loopw [12] (fun i wr => ∃ k q, k ≤ n ∧ i = .int .i64 (k : Nat) ∧ wr = w6.drewN q) (fun i _ => n - (intOf i).toNat)
  case atStart => exact ⟨0, 0, Nat.zero_le _, rfl, rfl⟩
  case round =>
    obtain ⟨k, q, hk, rfl, rfl⟩ := hrel
    by_cases hlt : k < n
    · obtain ⟨b1, o1, e0, e1⟩ := sown5.cell k hlt
      obtain ⟨rfl, rfl⟩ : g2 = b1 ∧ o1 = 0 := by simpa [eq_comm] using e0
      rw [Nat.zero_add] at e1
      obtain ⟨b2, o2, rfl, e2⟩ := hs5.cell k hlt
      obtain ⟨u0, u1⟩ := hu k (by rw [HL.out]; exact hlt)
      obtain ⟨x, hx⟩ : ∃ x, x = zs.getD k 0 := ⟨_, rfl⟩
      rw [← hx] at e1 e2 u0 u1
      clear hx e0
      have f1 : (w6.drewN q).cell? ⟨g2, k, none⟩ = some (.int .u64 x) := e1
      have f2 : (w6.drewN q).cell? ⟨b2, o2 + k, none⟩ = some (.int .u64 x) := e2
      obtain ⟨wq, hwq⟩ : ∃ wq, wq = w6.drewN q := ⟨_, rfl⟩
      rw [← hwq] at f1 f2 ⊢
      have HWQ := Lib.hid hwq
      clear hwq e1 e2
      go_wp2_with fail
      go_quiet ((first | (go_at_call 17; exact quiet_eq (width_calls _ _ u0 u1)) | (go_at_call 18; exact quiet_eq (rwidth_calls _ _ u0 u1))))
      go_wp2
      go_roundw
      case rel => exact ⟨k + 1, _, by omega, by go_num, by rw [HWQ.out]; exact World.drewN_drewN _ _ _⟩
      case measure => simp [intOf]; omega
    · have c5 := owa5.drewN q
      have c6 := sb6.drewN q
      have c7 := sc6.drewN q
      have c8 := below_drewN b5 q
      clear owa5 sb6 sc6 b5 sown5 hs5
      have hz6 : w2.heap.size ≤ (w6.drewN q).heap.size := hz5
      generalize w6.drewN q = w7 at *
      go_wp2_with fail
      go_loopw [13] (fun i wr => ∃ (k : Nat) (za : List Int), k ≤ po.length ∧ i = .int .i64 (k : Nat) ∧ za.length = po.length ∧ Ow .u8 5 w2.heap.size wr (.slice aa po.length ca) za ∧ w7.grownBy wr (Value.slice aa po.length ca).ownBlock) (fun i _ => po.length - (intOf i).toNat)
      case atStart => exact ⟨0, po, Nat.zero_le _, rfl, rfl, c5, World.grownBy.refl _ _⟩
      case round =>
        obtain ⟨k, za, hk, rfl, hza, how, hgr⟩ := hrel
        by_cases hlt : k < po.length
        · obtain ⟨ga, rfl, gb1, gl1, hc, hf, hset⟩ := how.at k (by omega)
          obtain ⟨x, hx⟩ : ∃ x, x = za.getD k 0 := ⟨_, rfl⟩
          rw [← hx] at hc
          have HZ := Lib.hid hza
          have HS := Lib.hid (hset 90)
          clear hx hset hza
          go_wp2
          go_roundw
          case rel => exact ⟨k + 1, za.set k 90, by omega, by go_num, by rw [List.length_set]; exact HZ.out, HS.out, grownBy_setCell hgr _ _⟩
          case measure => simp [intOf]; omega
        · have d6 := c6.grown hgr hbb
          have d7 := c7.grown hgr hcb
          have d8 : Below w.heap.size w wr := c8.trans (below_of_grown hgr (by omega) (fun g hg => by have := (c5.lt g hg).1; omega))
          clear hza
          go_wp2_with (go_at_call 16; refine (same_calls _ _ _ _ _ _ _ _ _ d6 d7).mono ?_; rintro e w' ⟨rfl, q4, rfl⟩; rw [sameB_yes rfl])
          go_ret
          exact ⟨rfl, below_drewN d8 _⟩
end Go.Proofs.Ytgkbkkhlnidigaa
