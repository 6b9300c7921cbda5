/- What 'wrote' does at a Raw. -/
import Derived.Test.YtgkbkkhlnidigaaBitsWrote
set_option linter.unusedVariables false
set_option linter.unusedSimpArgs false
namespace Go.Proofs.Ytgkbkkhlnidigaa
open Go.RowKit Go.Tk
set_option maxRecDepth 100000 in
set_option maxHeartbeats 2000000 in
theorem wrote2 (W w : World) (base p q : Nat) (most : Int) (st : List Int × Bool) (v u : Value) (h : Pr w base p q most st v u) (n k : Int) (ba : Option Addr) (bl bc : Nat) (two : Bool) (bz : List Int) (hwb : W.heap.size ≤ base) (hW : Below W.heap.size W w) (hsl : SlI .u8 W ba bl bc bz) (hnil : ba = none → bc = 0) (h0 : 0 ≤ most) (h1 : most ≤ 9223372036854775807) (hb : st.1.length + bl + 20 ≤ 140737488355000) (hbl : bl ≤ 140737488351232) :
    Calls Try.prog 21 #[.pointer (some ⟨p, 0, none⟩), .pointer (some ⟨q, 0, none⟩), .agg #[.int .i64 2, .int .u64 n, .int .i64 k, .slice ba bl bc, .bool two]] w (WroteP w base p q most (putF most st bz) v u) := by
  have ka : Kept (fun _ => False) w (w.alloc (.cells #[.int .i64 2, .int .u64 n, .int .i64 k, .slice ba bl bc, .bool two] 53)) := (Kept.refl _ w).alloc _
  have hx : BoxO (w.alloc (.cells #[.int .i64 2, .int .u64 n, .int .i64 k, .slice ba bl bc, .bool two] 53)) w.heap.size ⟨2, n, k, ba, bl, bc, [], two⟩ := box_new w ⟨2, n, k, ba, bl, bc, [], two⟩
  have hnf : ∀ k, Fp2 p q v u k → base ≤ k ∧ k < w.heap.size := h.lt
  obtain rfl : bz.length = bl := hsl.len
  have sW := hsl.keep hW
  have sa := sW.alloc (.cells #[.int .i64 2, .int .u64 n, .int .i64 k, .slice ba bz.length bc, .bool two] 53)
  have ha := h.kept ka (fun _ _ h => h)
  have hle := hsl.le
  have hmx := hsl.max
  have KA := Lib.hid ka
  have HN := Lib.hid hnil
  clear ka hnil
  go_enter Try.func21, Try.ntmps21
  go_wp2_with (go_at_call 11; fail)
  have za := hx.lt
  have c0 := hx.c0
  have c3 : World.cell? _ ⟨w.heap.size, 3, none⟩ = some (.slice ba bz.length bc) := hx.c3
  generalize w.alloc (.cells #[.int .i64 2, .int .u64 n, .int .i64 k, .slice ba bz.length bc, .bool two] 53) = wa at *
  go_wp2_with (first
    | (go_at_call 11; refine (copied_calls _ _ _ _ bz sa hbl).mono ?_; rintro e wb ⟨rfl, fr⟩; have owb := fr.row.ow (Nat.le_refl _) (by omega); have zb := fr.below.size; have kb := Kept.none_of_below fr.below)
    | (at_builtin
       refine wpList_appJ rfl (.tmp 28) (.tmp 29) _ rfl .u8 wa.heap.size 5 _ 1 Try.underlying22 Try.infoU8 rfl _ bz rfl (owb.alloc _) _ 1 1 [5] rfl (SlI.one _ _ _ _) (by simp) (by omega) (by omega) (by simp; omega) ?_
       intro v7 wd ow7 hg' st'
       have kd : Kept (fun _ => False) wa wd := (kb.alloc _).trans (Kept.of_grown hg') (fun i hi => .inr (owb.lt i hi).1)
       have xd := hx.kept kd (fun h => h)
       have d3 : wd.cell? ⟨w.heap.size, 3, none⟩ = some (.slice ba bz.length bc) := xd.c3
       obtain ⟨va, vc, rfl, s7, _⟩ := ow7.sl
       have el : (bz ++ [(5:Int)]).length = bz.length + 1 := by simp
       rw [el] at ow7 s7 ⊢
       obtain ⟨g7, rfl, g71, g72, cd7, _, _⟩ := ow7.at bz.length (by simp)
       have e5 : (bz ++ [(5:Int)]).getD bz.length 0 = 5 := by simp
       rw [e5] at cd7
       have s7p := s7.pre bz.length (by omega)
       have et : (bz ++ [(5:Int)]).take bz.length = bz := by simp
       rw [et] at s7p
       have s7m := s7.max
       have s7l := s7.le
       have hd := ha.kept kd (fun _ _ h => h)
       have zd := kd.size
       have zw := KA.out.size
       have hWd : Below W.heap.size W wd := (hW.trans (KA.out.below (by have := hW.size; omega) (fun _ h => h.elim))).trans (kd.below (by have := hW.size; omega) (fun _ h => h.elim))
       have hWs := hWd.size
       have EL := Lib.hid el
       clear el e5 et owb fr kb hg' st' zb))
  go_wp2_with (first
    | (go_at_call 33; refine (raw_calls _ base p most st v hd.B _ _ _ bz s7p (by simp) h0 h1 (by omega)).mono ?_; rintro e we hp; obtain ⟨v', rfl, hh⟩ := hd.half hp; have xe := xd.kept hh.K (fun hf => by have := hnf _ (.inl hf); omega); have ce3 : we.cell? ⟨w.heap.size, 3, none⟩ = some (.slice ba bz.length bc) := xe.c3; have hWe : Below W.heap.size W we := hWd.trans (hh.K.below (by omega) (fun k hk => Nat.le_trans hwb (hnf _ (.inl hk)).1)); have se := hsl.keep hWe; clear hp)
    | (go_at_call 51; refine (put_calls _ base q most st u hh.R _ _ _ bz se HN.out h0 h1 (by omega)).mono ?_; rintro e wf hp2; obtain ⟨u', rfl, hP, hK, s1, s2⟩ := hh.whole (T := fun _ => False) (fun _ h => h.elim) (fun _ _ h => h) (Kept.refl _ we) hp2; clear hp2))
  have n7 : ¬ Fp2 p q v u g7 := fun hf => by have := hnf _ hf; omega
  have xf := xd.kept hK (fun hf => by have := hnf _ hf; omega)
  have cf3 : wf.cell? ⟨w.heap.size, 3, none⟩ = some (.slice ba bz.length bc) := xf.c3
  have hWf : Below W.heap.size W wf := hWd.trans (hK.below (by omega) (fun k hk => Nat.le_trans hwb (hnf _ hk).1))
  have sf := hsl.keep hWf
  have s7f := s7p.kept hK (fun x hx => by obtain rfl := Option.some.inj hx; exact n7)
  have cf7 := hK.cell cd7 n7
  have owf := ow7.kept2 hK (fun g hg => by obtain rfl := Option.some.inj hg; exact n7)
  have q1 := fun n => by have := same_calls (wf.drewN n) _ _ _ _ _ _ _ _ (s7f.drewN n) (sf.drewN n); rw [sameB_self] at this; exact quiet_draw this
  go_quiet ((go_at_call 16; with_reducible exact q1 _))
  have m7 : ∀ k, Fp2 p q v' u' k → ¬ k = g7 := fun k hf e => by
    rcases hf with hf | hf
    · rcases Fp.step s1 hf with h1 | h1
      · exact n7 (e ▸ .inl h1)
      · omega
    · rcases Fp.step s2 hf with h1 | h1
      · exact n7 (e ▸ .inr h1)
      · omega
  have hPg := hP.drewN nq
  have hKg := hK.drewN nq
  have owg := owf.drewN nq
  have zg : wd.heap.size ≤ (wf.drewN nq).heap.size := hK.size
  clear hP hK owf s7f sf cf3 cf7 xf q1 hh xe ce3 se hWf hWe
  generalize wf.drewN nq = wg at *
  go_wp2
  go_loopw [8] (fun i wr => ∃ (j : Nat) (ys : List Int), i = .int .i64 j ∧ j ≤ bz.length + 1 ∧ ys.length = bz.length + 1 ∧ Ow .u8 5 wa.heap.size wr (.slice (some ⟨g7, 0, none⟩) (bz.length + 1) vc) ys ∧ Kept (fun g => g = g7) wg wr) (fun i _ => bz.length + 1 - (intOf i).toNat)
  case atStart => exact ⟨0, _, rfl, by omega, EL.out, owg, Kept.refl _ _⟩
  case round =>
    obtain ⟨j, ys, rfl, hj, hy, how, hk⟩ := hrel
    by_cases hm : j < bz.length + 1
    · have hjy : j < ys.length := by omega
      have hy0 : ys.length = (ys.set j 77).length := by simp
      have HY := Lib.hid (hy0.symm.trans hy)
      clear hy hy0
      obtain ⟨g, hgg, hg1, hg2, hcj, hfj, hset⟩ := how.at j hjy
      obtain rfl : g7 = g := by have := Option.some.inj hgg; simpa using congrArg Addr.block this
      clear hgg
      go_wp2
      go_roundw
      case rel => exact ⟨j + 1, _, by simp, by omega, HY.out, hset 77, hk.setCell (p := ⟨g7, j, none⟩) (.inl rfl) (.int .u8 77)⟩
      case measure => simp [intOf]; omega
    · have hPr := hPg.kept hk (fun k hf => m7 k hf)
      have kwr : Kept (Fp2 p q v u) w wr := (((KA.out.mono (T := Fp2 p q v u) (fun _ h => h.elim)).trans kd (fun _ h => h.elim)).trans hKg (fun i hi => .inl hi)).trans hk (fun i hi => .inr (by omega))
      obtain ⟨ua, uc, rfl, hus, _⟩ := hPr.R.own.sl
      have ul := hus.le
      have um := hus.max
      have cq : wr.cell? ⟨q, 1, none⟩ = some (.slice ua (putF most st bz).1.length uc) := by rw [cell_of_row wr q 1 _ _ _ hPr.R.blk]; rfl
      have q3 := fun n => quiet_eq (len_calls (wr.drewN n) base p most (putF most st bz) v' (hPr.B.drewN n))
      clear hy
      go_wp2_with fail
      go_quiet ((go_at_call 31; with_reducible exact q3 _))
      go_wp2
      go_ret
      exact ⟨_, _, rfl, hPr.drewN _, kwr.drewN _, OwnStep.old s1 (by omega), OwnStep.old s2 (by omega)⟩
end Go.Proofs.Ytgkbkkhlnidigaa
