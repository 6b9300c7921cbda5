/- BitsBuf BitsBuf2 BitsBuf3, laid as one. -/
import Derived.Test.YtgajpekolamjbaaOwnC
import Derived.Test.YtgajpekolamjbaaTypes
import Derived.Test.YtgajpekolamjbaaReg
import Derived.BigQuiet
import Derived.Test.YtgajpekolamjbaaBitsNum
set_option linter.unusedVariables false
set_option linter.unusedSimpArgs false
/- Buffers: what their calls do. -/
namespace Go.Proofs.Ytgajpekolamjbaa
open Go.RowKit Go.Tk
/-- What a buffer that takes so many bytes has behind some more. -/
def putF (most : Int) (st : List Int × Bool) (ns : List Int) : List Int × Bool :=
  if st.2 = true then st else if most - st.1.length < ns.length then (st.1, true) else (st.1 ++ ns, false)
/-- A bits.Buffer in memory. -/
structure BufB (w : World) (base b : Nat) (most : Int) (st : List Int × Bool) (v : Value) : Prop where
  blk : w.heap[b]? = some (.cells #[v, .int .i64 most, .bool st.2] 129 (0, 0))
  own : Ow .u8 5 base w v st.1
  ne : v.ownBlock ≠ some b
  new : base ≤ b
/-- The blocks that a buffer holds. -/
def Fp (b : Nat) (v : Value) (k : Nat) : Prop := k = b ∨ v.ownBlock = some k

/-- What is known behind a put. -/
def PutBufB (w : World) (base b : Nat) (most : Int) (st : List Int × Bool) (v : Value) (e : Ending) (w' : World) : Prop := ∃ v', e = .returned (.tuple #[]) ∧ BufB w' base b most st v' ∧ Kept (Fp b v) w w' ∧ OwnStep w v v'
theorem BufB.drewN {w : World} {base b : Nat} {most : Int} {st : List Int × Bool} {v : Value} (h : BufB w base b most st v) (n : Nat) : BufB (w.drewN n) base b most st v := ⟨h.blk, h.own, h.ne, h.new⟩
theorem BufB.lt {w : World} {base b : Nat} {most : Int} {st : List Int × Bool} {v : Value} (h : BufB w base b most st v) : ∀ k, Fp b v k → base ≤ k ∧ k < w.heap.size := fun k hk => by
  rcases hk with rfl | hk
  · exact ⟨h.new, (Array.getElem?_eq_some_iff.1 h.blk).1⟩
  · exact h.own.lt k hk
theorem BufB.kept {S : Nat → Prop} {w w' : World} {base b : Nat} {most : Int} {st : List Int × Bool} {v : Value} (h : BufB w base b most st v) (hk : Kept S w w') (hd : ∀ k, Fp b v k → ¬ S k) : BufB w' base b most st v :=
  ⟨(hk.block b (Array.getElem?_eq_some_iff.1 h.blk).1 (hd b (.inl rfl))).trans h.blk, h.own.kept2 hk (fun g hg => hd g (.inr hg)), h.ne, h.new⟩
theorem BufB.setFull {w : World} {base b : Nat} {most : Int} {zs : List Int} {f : Bool} {v : Value} (h : BufB w base b most (zs, f) v) (g : Bool) : BufB (w.setCell ⟨b, 2, none⟩ (.bool g)) base b most (zs, g) v :=
  ⟨by rw [heap_setCell_same w b 2 _ _ _ h.blk]; rfl, h.own.kept2 ((Kept.refl (fun k => k = b) w).setCell (.inl rfl) _) (fun k hk e => h.ne (by rw [hk, e])), h.ne, h.new⟩
theorem BufB.setV {w : World} {base b : Nat} {most : Int} {zs' : List Int} {f : Bool} {v v' : Value} (h : w.heap[b]? = some (.cells #[v, .int .i64 most, .bool f] 129 (0, 0))) (how : Ow .u8 5 base w v' zs') (hne : v'.ownBlock ≠ some b) (hn : base ≤ b) : BufB (w.setCell ⟨b, 0, none⟩ v') base b most (zs', f) v' :=
  ⟨by rw [heap_setCell_same w b 0 _ _ _ h]; rfl, how.kept2 ((Kept.refl (fun k => k = b) w).setCell (.inl rfl) _) (fun k hk e => hne (by rw [hk, e])), hne, hn⟩
theorem raw_full (w : World) (base b : Nat) (most : Int) (zs : List Int) (v : Value) (h : BufB w base b most (zs, true) v) (a : Option Addr) (n c : Nat) (h0 : 0 ≤ most) (h1 : most ≤ 9223372036854775807) (hz : zs.length ≤ 9223372036854775807) (hn : n ≤ 9223372036854775807) :
    Calls Try.prog 42 #[.pointer (some ⟨b, 0, none⟩), .slice a n c] w fun e w' => e = .returned (.tuple #[]) ∧ BufB w' base b most (zs, true) v ∧ Kept (Fp b v) w w' := by
  obtain ⟨va, vc, rfl, hs, _⟩ := h.own.sl
  have c0 : w.cell? ⟨b, 0, none⟩ = some (.slice va zs.length vc) := by rw [cell_of_row w b 0 _ _ _ h.blk]; rfl
  have c1 : w.cell? ⟨b, 1, none⟩ = some (.int .i64 most) := by rw [cell_of_row w b 1 _ _ _ h.blk]; rfl
  have c2 : w.cell? ⟨b, 2, none⟩ = some (.bool true) := by rw [cell_of_row w b 2 _ _ _ h.blk]; rfl
  have f2 : w.frozen? ⟨b, 2, none⟩ = false := frozen_of_row w b 2 _ _ h.blk
  have hc2 : ∀ x, (w.setCell ⟨b, 2, none⟩ x).cell? ⟨b, 2, none⟩ = some x := fun x => World.cell?_setCell_same' _ _ _ (by rw [c2]; rfl)
  by_cases hlt : most - (zs.length : Int) < (n : Int)
  · go_enter Try.func42, Try.ntmps42
    go_wp2_with fail
    go_quiet (fail)
    go_wp2
    go_end0
    exact ⟨rfl, (h.setFull true).drewN _, ((Kept.refl _ w).setCell (p := ⟨b, 2, none⟩) (.inl (.inl rfl)) _).drewN _⟩
  · go_enter Try.func42, Try.ntmps42
    go_wp2_with fail
    go_quiet (fail)
    go_wp2
    go_end0
    exact ⟨rfl, h.drewN _, (Kept.refl _ w).drewN _⟩
theorem raw_long (w : World) (base b : Nat) (most : Int) (zs : List Int) (v : Value) (h : BufB w base b most (zs, false) v) (a : Option Addr) (n c : Nat) (h0 : 0 ≤ most) (h1 : most ≤ 9223372036854775807) (hz : zs.length ≤ 9223372036854775807) (hn : n ≤ 9223372036854775807) (hlt : most - (zs.length : Int) < (n : Int)) :
    Calls Try.prog 42 #[.pointer (some ⟨b, 0, none⟩), .slice a n c] w fun e w' => e = .returned (.tuple #[]) ∧ BufB w' base b most (zs, true) v ∧ Kept (Fp b v) w w' := by
  obtain ⟨va, vc, rfl, hs, _⟩ := h.own.sl
  have c0 : w.cell? ⟨b, 0, none⟩ = some (.slice va zs.length vc) := by rw [cell_of_row w b 0 _ _ _ h.blk]; rfl
  have c1 : w.cell? ⟨b, 1, none⟩ = some (.int .i64 most) := by rw [cell_of_row w b 1 _ _ _ h.blk]; rfl
  have c2 : w.cell? ⟨b, 2, none⟩ = some (.bool false) := by rw [cell_of_row w b 2 _ _ _ h.blk]; rfl
  have f2 : w.frozen? ⟨b, 2, none⟩ = false := frozen_of_row w b 2 _ _ h.blk
  have hc2 : ∀ x, (w.setCell ⟨b, 2, none⟩ x).cell? ⟨b, 2, none⟩ = some x := fun x => World.cell?_setCell_same' _ _ _ (by rw [c2]; rfl)
  go_enter Try.func42, Try.ntmps42
  go_wp2_with fail
  go_quiet (fail)
  go_wp2
  go_end0
  exact ⟨rfl, (h.setFull true).drewN _, ((Kept.refl _ w).setCell (p := ⟨b, 2, none⟩) (.inl (.inl rfl)) _).drewN _⟩
set_option maxHeartbeats 400000 in
theorem raw_fits (w : World) (base b : Nat) (most : Int) (zs : List Int) (v : Value) (h : BufB w base b most (zs, false) v) (a : Option Addr) (n c : Nat) (ns : List Int) (hsl : SlI .u8 w a n c ns) (hnil : a = none → c = 0) (h0 : 0 ≤ most) (h1 : most ≤ 9223372036854775807) (hz : zs.length ≤ 9223372036854775807) (hn : n ≤ 9223372036854775807) (hge : (n : Int) ≤ most - (zs.length : Int)) (hb : zs.length + n ≤ 140737488355328) :
    Calls Try.prog 42 #[.pointer (some ⟨b, 0, none⟩), .slice a n c] w (PutBufB w base b most (zs ++ ns, false) v) := by
  have hlt : ¬ (most - (zs.length : Int) < (n : Int)) := by omega
  have hbl := Array.getElem?_eq_some_iff.1 h.blk |>.1
  have hbase := Nat.le_trans h.new (Nat.le_of_lt hbl)
  obtain ⟨va, vc, rfl, hs, _⟩ := h.own.sl
  have c0 : w.cell? ⟨b, 0, none⟩ = some (.slice va zs.length vc) := by rw [cell_of_row w b 0 _ _ _ h.blk]; rfl
  have c1 : w.cell? ⟨b, 1, none⟩ = some (.int .i64 most) := by rw [cell_of_row w b 1 _ _ _ h.blk]; rfl
  have c2 : w.cell? ⟨b, 2, none⟩ = some (.bool false) := by rw [cell_of_row w b 2 _ _ _ h.blk]; rfl
  have f2 : w.frozen? ⟨b, 2, none⟩ = false := frozen_of_row w b 2 _ _ h.blk
  have HN := Lib.hid hnil
  clear hnil
  go_enter Try.func42, Try.ntmps42
  go_wp2_with fail
  go_quiet (fail)
  have ownq := h.own.drewN nq
  have slq := hsl.drewN nq
  have c0' : (w.drewN nq).cell? ⟨b, 0, none⟩ = some (.slice va zs.length vc) := c0
  have c2' : (w.drewN nq).cell? ⟨b, 2, none⟩ = some (.bool false) := c2
  have hbase' : base ≤ (w.drewN nq).heap.size := hbase
  have kq : Kept (Fp b (.slice va zs.length vc)) w (w.drewN nq) := (Kept.refl _ w).drewN nq
  have blkq : (w.drewN nq).heap[b]? = _ := h.blk
  have hsq : OwnStep (w.drewN nq) (.slice va zs.length vc) = OwnStep w (.slice va zs.length vc) := rfl
  have HSQ := Lib.hid hsq
  have HBQ := Lib.hid blkq
  clear c0 c1 c2 f2 hsq blkq hlt
  generalize w.drewN nq = wq at *
  go_wp2_with (at_builtin; refine wpList_appJ rfl (.tmp 29) (.tmp 30) _ rfl .u8 base 5 _ 1 Try.underlying25 Try.infoU8 rfl _ zs rfl ownq _ _ _ ns rfl slq HN.out (by omega) (by omega) hbase' ?_; intro v' w' ow' hg' st'; have blk' := (hg'.block b (Array.getElem?_eq_some_iff.1 HBQ.out).1 (fun e => h.ne e.symm)).trans HBQ.out; have nb := st'.ne (Array.getElem?_eq_some_iff.1 HBQ.out).1 h.ne; have k' : Kept (Fp b (.slice va zs.length vc)) w w' := kq.trans (Kept.of_grown hg') (fun i hi => .inl (.inr hi)); have s' : OwnStep w (.slice va zs.length vc) v' := (by rw [← HSQ.out]; exact st'); obtain ⟨va', vc', rfl, _, _⟩ := ow'.sl; rw [List.length_append] at ow' s' nb ⊢; have d0 : w'.cell? ⟨b, 0, none⟩ = some (.slice va zs.length vc) := (by rw [cell_of_row w' b 0 _ _ _ blk']; rfl); have e0 : w'.frozen? ⟨b, 0, none⟩ = false := frozen_of_row w' b 0 _ _ blk'; have BLK := Lib.hid blk'; clear hg' st' blk')
  go_end0
  exact ⟨_, rfl, BufB.setV BLK.out ow' nb h.new, k'.setCell (p := ⟨b, 0, none⟩) (.inl (.inl rfl)) _, s'⟩
/-- Bytes behind the others: what becomes of the buffer. -/
theorem raw_calls (w : World) (base b : Nat) (most : Int) (st : List Int × Bool) (v : Value) (h : BufB w base b most st v) (a : Option Addr) (n c : Nat) (ns : List Int) (hsl : SlI .u8 w a n c ns) (hnil : a = none → c = 0) (h0 : 0 ≤ most) (h1 : most ≤ 9223372036854775807) (hb : st.1.length + n ≤ 140737488355328) :
    Calls Try.prog 42 #[.pointer (some ⟨b, 0, none⟩), .slice a n c] w (PutBufB w base b most (putF most st ns) v) := by
  obtain ⟨zs, f⟩ := st
  have hb' : zs.length + n ≤ 140737488355328 := hb
  have hl := hsl.len
  cases f with
  | true =>
    refine (raw_full w base b most zs v h a n c h0 h1 (by omega) (by omega)).mono fun e w' ⟨he, hB, hk⟩ => ⟨v, he, ?_, hk, .inl rfl⟩
    have : putF most (zs, true) ns = (zs, true) := by simp [putF]
    rw [this]; exact hB
  | false =>
    by_cases hlt : most - (zs.length : Int) < (n : Int)
    · refine (raw_long w base b most zs v h a n c h0 h1 (by omega) (by omega) hlt).mono fun e w' ⟨he, hB, hk⟩ => ⟨v, he, ?_, hk, .inl rfl⟩
      have : putF most (zs, false) ns = (zs, true) := by unfold putF; rw [if_neg (by simp), if_pos (by rw [hl]; exact hlt)]
      rw [this]; exact hB
    · refine (raw_fits w base b most zs v h a n c ns hsl hnil h0 h1 (by omega) (by omega) (by omega) hb').mono fun e w' ⟨v', he, hB, hk, hs⟩ => ⟨v', he, ?_, hk, hs⟩
      have : putF most (zs, false) ns = (zs ++ ns, false) := by unfold putF; rw [if_neg (by simp), if_neg (by rw [hl]; exact hlt)]
      rw [this]; exact hB

end Go.Proofs.Ytgajpekolamjbaa
/- Buffers: Byte, Varint, Fixed, Len, Bytes, New; the reference's. -/
namespace Go.Proofs.Ytgajpekolamjbaa
open Go.RowKit Go.Tk
theorem PutBufB.of_alloc {w w0 : World} {base b : Nat} {most : Int} {st : List Int × Bool} {v : Value} {e : Ending} {w' : World} (hk : Kept (fun _ => False) w w0) (h : PutBufB w0 base b most st v e w') : PutBufB w base b most st v e w' := by
  obtain ⟨v', he, hB, hK, hs⟩ := h
  refine ⟨v', he, hB, (hk.mono (T := Fp b v) (fun _ h => h.elim)).trans hK (fun i hi => .inl hi), ?_⟩
  rcases hs with h1 | ⟨g, h1, h2⟩
  · exact .inl h1
  · exact .inr ⟨g, h1, Nat.le_trans hk.size h2⟩
theorem byte_calls (w : World) (base b : Nat) (most : Int) (st : List Int × Bool) (v : Value) (h : BufB w base b most st v) (x : Int) (h0 : 0 ≤ most) (h1 : most ≤ 9223372036854775807) (hb : st.1.length + 1 ≤ 140737488355328) :
    Calls Try.prog 41 #[.pointer (some ⟨b, 0, none⟩), .int .u8 x] w (PutBufB w base b most (putF most st [x]) v) := by
  have hk : Kept (fun _ => False) w (w.alloc (.cells #[.int .u8 x] 5)) := (Kept.refl _ w).alloc _
  have hB := h.kept hk (fun _ _ h => h)
  have hs := SlI.one .u8 5 w x
  go_enter Try.func41, Try.ntmps41
  go_wp2_with (go_at_call 42; refine (raw_calls _ _ _ _ _ _ hB _ _ _ _ hs (by simp) h0 h1 hb).mono ?_; rintro e w1 ⟨v', rfl, hp⟩)
  go_end0
  exact PutBufB.of_alloc hk ⟨v', rfl, hp⟩
set_option maxHeartbeats 400000 in
theorem varint_calls (w : World) (base b : Nat) (most : Int) (st : List Int × Bool) (v : Value) (h : BufB w base b most st v) (x : Int) (x0 : 0 ≤ x) (x1 : x < 18446744073709551616) (h0 : 0 ≤ most) (h1 : most ≤ 9223372036854775807) (hb : st.1.length + 10 ≤ 140737488355328) :
    Calls Try.prog 37 #[.pointer (some ⟨b, 0, none⟩), .int .u64 x] w (PutBufB w base b most (putF most st (vz x)) v) := by
  go_enter Try.func37, Try.ntmps37
  go_wp2_with fail
  go_loopw [1, 4] (fun nn vv wr => ∃ (m : Int) (zs : List Int), nn = .int .u64 m ∧ 0 ≤ m ∧ m < 18446744073709551616 ∧ Ow .u8 5 w.heap.size wr vv zs ∧ zs ++ vz m = vz x ∧ Kept (fun _ => False) w wr) (fun nn _ _ => (intOf nn).toNat)
  case atStart => exact ⟨x, [], rfl, x0, x1, Ow.nil _ _ _ _, rfl, Kept.refl _ _⟩
  case round =>
    obtain ⟨m, zs, rfl, m0, m1, how, hz, hk⟩ := hrel
    have hzl : zs.length ≤ 10 := by
      have a1 := congrArg List.length hz
      have a2 := vz_len x
      have a3 := vz_len m
      rw [List.length_append] at a1
      omega
    have HZ := Lib.hid hz
    have hsz := hk.size
    clear hz
    by_cases hm : 128 ≤ m
    · go_wp2_with (at_builtin; refine wpList_appJ rfl (.tmp 7) (.tmp 11) _ rfl .u8 w.heap.size 5 _ 1 Try.underlying25 Try.infoU8 rfl _ zs rfl (how.alloc _) _ 1 1 _ rfl (SlI.one _ _ _ _) (by simp) (by omega) (by omega) (by simp; omega) ?_; intro v' w' ow' hg' st')
      have k' : Kept (fun _ => False) w w' := (hk.alloc _).trans (Kept.of_grown hg') (fun i hi => .inr (how.lt i hi).1)
      have e' : (zs ++ [bits .or .u8 (m % 256) 128]) ++ vz (m / 128) = vz x := by
        rw [List.append_assoc]
        have := vz_step hm m1
        show zs ++ (bits .or .u8 (m % 256) 128 :: vz (m / 128)) = vz x
        rw [← this]; exact HZ.out
      have E' := Lib.hid e'
      clear hg' st' e'
      go_wp2
      go_roundw
      case rel => exact ⟨m / 128, _, by go_num, by omega, by omega, ow', E'.out, k'⟩
      case measure => simp [intOf]; omega
    · have hz1 : zs ++ [m] = vz x := by
        have hl1 := vz_last (by omega : m < 128)
        have e2 : m % 256 = m := by omega
        rw [e2] at hl1
        rw [← hl1]; exact HZ.out
      have hl := vz_len x
      have HZ1 := Lib.hid hz1
      clear hz1
      go_wp2_with (first
        | (at_builtin; refine wpList_appJ rfl (.tmp 16) (.tmp 19) _ rfl .u8 w.heap.size 5 _ 1 Try.underlying25 Try.infoU8 rfl _ zs rfl (how.alloc _) _ 1 1 _ rfl (SlI.one _ _ _ _) (by simp) (by omega) (by omega) (by simp; omega) ?_; intro v' w' ow' hg' st'; have k' : Kept (fun _ => False) w w' := (hk.alloc _).trans (Kept.of_grown hg') (fun i hi => .inr (how.lt i hi).1); rw [HZ1.out] at ow'; obtain ⟨va, vc, rfl, sv, _⟩ := ow'.sl; have hB := h.kept k' (fun _ _ h => h); have hn : va = none → vc = 0 := (fun e => by subst e; exact ow'.nil_cap); clear hg' st')
        | (go_at_call 42; refine (raw_calls _ _ _ _ _ _ hB _ _ _ _ sv hn h0 h1 (by omega)).mono ?_; rintro e w1 ⟨v', rfl, hp⟩))
      go_end0
      exact PutBufB.of_alloc k' ⟨v', rfl, hp⟩
end Go.Proofs.Ytgajpekolamjbaa
/- Buffers: Fixed; the reference's Varint and Fixed. -/
namespace Go.Proofs.Ytgajpekolamjbaa
open Go.RowKit Go.Tk
/-- A row of bytes, new. -/
def NewRow (w : World) (zs : List Int) (e : Ending) (w' : World) : Prop := ∃ v', e = .returned v' ∧ Ow .u8 5 w.heap.size w' v' zs ∧ Kept (fun _ => False) w w'
set_option maxHeartbeats 400000 in
theorem rvarint_calls (w : World) (x : Int) (x0 : 0 ≤ x) (x1 : x < 18446744073709551616) :
    Calls Try.prog 47 #[.int .u64 x] w (NewRow w (vz x)) := by
  go_enter Try.func47, Try.ntmps47
  go_wp2_with fail
  go_loopw [0, 3] (fun nn vv wr => ∃ (m : Int) (zs : List Int), nn = .int .u64 m ∧ 0 ≤ m ∧ m < 18446744073709551616 ∧ Ow .u8 5 w.heap.size wr vv zs ∧ zs ++ vz m = vz x ∧ Kept (fun _ => False) w wr) (fun nn _ _ => (intOf nn).toNat)
  case atStart => exact ⟨x, [], rfl, x0, x1, Ow.nil _ _ _ _, rfl, Kept.refl _ _⟩
  case round =>
    obtain ⟨m, zs, rfl, m0, m1, how, hz, hk⟩ := hrel
    have hzl : zs.length ≤ 10 := by
      have a1 := congrArg List.length hz
      have a2 := vz_len x
      have a3 := vz_len m
      rw [List.length_append] at a1
      omega
    have HZ := Lib.hid hz
    have hsz := hk.size
    clear hz
    by_cases hm : 128 ≤ m
    · go_wp2_with (at_builtin; refine wpList_appJ rfl (.tmp 6) (.tmp 10) _ rfl .u8 w.heap.size 5 _ 1 Try.underlying25 Try.infoU8 rfl _ zs rfl (how.alloc _) _ 1 1 _ rfl (SlI.one _ _ _ _) (by simp) (by omega) (by omega) (by simp; omega) ?_; intro v' w' ow' hg' st')
      have k' : Kept (fun _ => False) w w' := (hk.alloc _).trans (Kept.of_grown hg') (fun i hi => .inr (how.lt i hi).1)
      have e' : (zs ++ [bits .or .u8 (m % 256) 128]) ++ vz (m / 128) = vz x := by
        rw [List.append_assoc]
        have := vz_step hm m1
        show zs ++ (bits .or .u8 (m % 256) 128 :: vz (m / 128)) = vz x
        rw [← this]; exact HZ.out
      have E' := Lib.hid e'
      clear hg' st' e'
      go_wp2
      go_roundw
      case rel => exact ⟨m / 128, _, by go_num, by omega, by omega, ow', E'.out, k'⟩
      case measure => simp [intOf]; omega
    · have hz1 : zs ++ [m] = vz x := by
        have hl1 := vz_last (by omega : m < 128)
        have e2 : m % 256 = m := by omega
        rw [e2] at hl1
        rw [← hl1]; exact HZ.out
      have HZ1 := Lib.hid hz1
      clear hz1
      go_wp2_with (at_builtin; refine wpList_appJ rfl (.tmp 14) (.tmp 17) _ rfl .u8 w.heap.size 5 _ 1 Try.underlying25 Try.infoU8 rfl _ zs rfl (how.alloc _) _ 1 1 _ rfl (SlI.one _ _ _ _) (by simp) (by omega) (by omega) (by simp; omega) ?_; intro v' w' ow' hg' st'; have k' : Kept (fun _ => False) w w' := (hk.alloc _).trans (Kept.of_grown hg') (fun i hi => .inr (how.lt i hi).1); rw [HZ1.out] at ow'; clear hg' st')
      go_ret
      exact ⟨_, rfl, ow', k'⟩
end Go.Proofs.Ytgajpekolamjbaa
