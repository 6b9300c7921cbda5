/- Buffers: what their calls do. -/
import Derived.Test.YtjgcmnppiaikcaaKept
import Derived.Test.YtjgcmnppiaikcaaTypes
import Derived.Test.YtjgcmnppiaikcaaReg
import Derived.BigQuiet
set_option linter.unusedVariables false
set_option linter.unusedSimpArgs false
namespace Go.Proofs.Ytjgcmnppiaikcaa
open Go.RowKit Go.Tk
/-- What a buffer that takes so many bytes has behind some more. -/
def putF (most : Int) (st : List Int × Bool) (ns : List Int) : List Int × Bool :=
  if st.2 = true then st else if most - st.1.length < ns.length then (st.1, true) else (st.1 ++ ns, false)
/-- A bits.Buffer in memory. -/
structure BufB (w : World) (base b : Nat) (most : Int) (st : List Int × Bool) (v : Value) : Prop where
  blk : w.heap[b]? = some (.cells #[v, .int .i64 most, .bool st.2] 107 (0, 0))
  own : Ow .u8 5 base w v st.1
  ne : v.ownBlock ≠ some b
  new : base ≤ b
/-- The blocks that a buffer holds. -/
def Fp (b : Nat) (v : Value) (k : Nat) : Prop := k = b ∨ v.ownBlock = some k

/-- What is known behind a put. -/
def PutBufB (w : World) (base b : Nat) (most : Int) (st : List Int × Bool) (v : Value) (e : Ending) (w' : World) : Prop := ∃ v', e = .returned (.tuple #[]) ∧ BufB w' base b most st v' ∧ Kept (Fp b v) w w' ∧ OwnStep w v v'
theorem BufB.drewN {w : World} {base b : Nat} {most : Int} {st : List Int × Bool} {v : Value} (h : BufB w base b most st v) (n : Nat) : BufB (w.drewN n) base b most st v := ⟨h.blk, h.own, h.ne, h.new⟩
theorem BufB.lt {w : World} {base b : Nat} {most : Int} {st : List Int × Bool} {v : Value} (h : BufB w base b most st v) : ∀ k, Fp b v k → base ≤ k ∧ k < w.heap.size := fun k hk => by
  rcases hk with rfl | hk
  · exact ⟨h.new, (Array.getElem?_eq_some_iff.1 h.blk).1⟩
  · exact h.own.lt k hk
theorem BufB.kept {S : Nat → Prop} {w w' : World} {base b : Nat} {most : Int} {st : List Int × Bool} {v : Value} (h : BufB w base b most st v) (hk : Kept S w w') (hd : ∀ k, Fp b v k → ¬ S k) : BufB w' base b most st v :=
  ⟨(hk.block b (Array.getElem?_eq_some_iff.1 h.blk).1 (hd b (.inl rfl))).trans h.blk, h.own.kept2 hk (fun g hg => hd g (.inr hg)), h.ne, h.new⟩
theorem BufB.setFull {w : World} {base b : Nat} {most : Int} {zs : List Int} {f : Bool} {v : Value} (h : BufB w base b most (zs, f) v) (g : Bool) : BufB (w.setCell ⟨b, 2, none⟩ (.bool g)) base b most (zs, g) v :=
  ⟨by rw [heap_setCell_same w b 2 _ _ _ h.blk]; rfl, h.own.kept2 ((Kept.refl (fun k => k = b) w).setCell (.inl rfl) _) (fun k hk e => h.ne (by rw [hk, e])), h.ne, h.new⟩
theorem BufB.setV {w : World} {base b : Nat} {most : Int} {zs' : List Int} {f : Bool} {v v' : Value} (h : w.heap[b]? = some (.cells #[v, .int .i64 most, .bool f] 107 (0, 0))) (how : Ow .u8 5 base w v' zs') (hne : v'.ownBlock ≠ some b) (hn : base ≤ b) : BufB (w.setCell ⟨b, 0, none⟩ v') base b most (zs', f) v' :=
  ⟨by rw [heap_setCell_same w b 0 _ _ _ h]; rfl, how.kept2 ((Kept.refl (fun k => k = b) w).setCell (.inl rfl) _) (fun k hk e => hne (by rw [hk, e])), hne, hn⟩
theorem raw_full (w : World) (base b : Nat) (most : Int) (zs : List Int) (v : Value) (h : BufB w base b most (zs, true) v) (a : Option Addr) (n c : Nat) (h0 : 0 ≤ most) (h1 : most ≤ 9223372036854775807) (hz : zs.length ≤ 9223372036854775807) (hn : n ≤ 9223372036854775807) :
    Calls Try.prog 33 #[.pointer (some ⟨b, 0, none⟩), .slice a n c] w fun e w' => e = .returned (.tuple #[]) ∧ BufB w' base b most (zs, true) v ∧ Kept (Fp b v) w w' := by
  obtain ⟨va, vc, rfl, hs, _⟩ := h.own.sl
  have c0 : w.cell? ⟨b, 0, none⟩ = some (.slice va zs.length vc) := by rw [cell_of_row w b 0 _ _ _ h.blk]; rfl
  have c1 : w.cell? ⟨b, 1, none⟩ = some (.int .i64 most) := by rw [cell_of_row w b 1 _ _ _ h.blk]; rfl
  have c2 : w.cell? ⟨b, 2, none⟩ = some (.bool true) := by rw [cell_of_row w b 2 _ _ _ h.blk]; rfl
  have f2 : w.frozen? ⟨b, 2, none⟩ = false := frozen_of_row w b 2 _ _ h.blk
  have hc2 : ∀ x, (w.setCell ⟨b, 2, none⟩ x).cell? ⟨b, 2, none⟩ = some x := fun x => World.cell?_setCell_same' _ _ _ (by rw [c2]; rfl)
  by_cases hlt : most - (zs.length : Int) < (n : Int)
  · go_enter Try.func33, Try.ntmps33
    go_wp2_with fail
    go_quiet (fail)
    go_wp2
    go_end0
    exact ⟨rfl, (h.setFull true).drewN _, ((Kept.refl _ w).setCell (p := ⟨b, 2, none⟩) (.inl (.inl rfl)) _).drewN _⟩
  · go_enter Try.func33, Try.ntmps33
    go_wp2_with fail
    go_quiet (fail)
    go_wp2
    go_end0
    exact ⟨rfl, h.drewN _, (Kept.refl _ w).drewN _⟩
theorem raw_long (w : World) (base b : Nat) (most : Int) (zs : List Int) (v : Value) (h : BufB w base b most (zs, false) v) (a : Option Addr) (n c : Nat) (h0 : 0 ≤ most) (h1 : most ≤ 9223372036854775807) (hz : zs.length ≤ 9223372036854775807) (hn : n ≤ 9223372036854775807) (hlt : most - (zs.length : Int) < (n : Int)) :
    Calls Try.prog 33 #[.pointer (some ⟨b, 0, none⟩), .slice a n c] w fun e w' => e = .returned (.tuple #[]) ∧ BufB w' base b most (zs, true) v ∧ Kept (Fp b v) w w' := by
  obtain ⟨va, vc, rfl, hs, _⟩ := h.own.sl
  have c0 : w.cell? ⟨b, 0, none⟩ = some (.slice va zs.length vc) := by rw [cell_of_row w b 0 _ _ _ h.blk]; rfl
  have c1 : w.cell? ⟨b, 1, none⟩ = some (.int .i64 most) := by rw [cell_of_row w b 1 _ _ _ h.blk]; rfl
  have c2 : w.cell? ⟨b, 2, none⟩ = some (.bool false) := by rw [cell_of_row w b 2 _ _ _ h.blk]; rfl
  have f2 : w.frozen? ⟨b, 2, none⟩ = false := frozen_of_row w b 2 _ _ h.blk
  have hc2 : ∀ x, (w.setCell ⟨b, 2, none⟩ x).cell? ⟨b, 2, none⟩ = some x := fun x => World.cell?_setCell_same' _ _ _ (by rw [c2]; rfl)
  go_enter Try.func33, Try.ntmps33
  go_wp2_with fail
  go_quiet (fail)
  go_wp2
  go_end0
  exact ⟨rfl, (h.setFull true).drewN _, ((Kept.refl _ w).setCell (p := ⟨b, 2, none⟩) (.inl (.inl rfl)) _).drewN _⟩
set_option maxHeartbeats 400000 in
theorem raw_fits (w : World) (base b : Nat) (most : Int) (zs : List Int) (v : Value) (h : BufB w base b most (zs, false) v) (a : Option Addr) (n c : Nat) (ns : List Int) (hsl : SlI .u8 w a n c ns) (hnil : a = none → c = 0) (h0 : 0 ≤ most) (h1 : most ≤ 9223372036854775807) (hz : zs.length ≤ 9223372036854775807) (hn : n ≤ 9223372036854775807) (hge : (n : Int) ≤ most - (zs.length : Int)) (hb : zs.length + n ≤ 140737488355328) :
    Calls Try.prog 33 #[.pointer (some ⟨b, 0, none⟩), .slice a n c] w (PutBufB w base b most (zs ++ ns, false) v) := by
  have hlt : ¬ (most - (zs.length : Int) < (n : Int)) := by omega
  have hbl := Array.getElem?_eq_some_iff.1 h.blk |>.1
  have hbase := Nat.le_trans h.new (Nat.le_of_lt hbl)
  obtain ⟨va, vc, rfl, hs, _⟩ := h.own.sl
  have c0 : w.cell? ⟨b, 0, none⟩ = some (.slice va zs.length vc) := by rw [cell_of_row w b 0 _ _ _ h.blk]; rfl
  have c1 : w.cell? ⟨b, 1, none⟩ = some (.int .i64 most) := by rw [cell_of_row w b 1 _ _ _ h.blk]; rfl
  have c2 : w.cell? ⟨b, 2, none⟩ = some (.bool false) := by rw [cell_of_row w b 2 _ _ _ h.blk]; rfl
  have f2 : w.frozen? ⟨b, 2, none⟩ = false := frozen_of_row w b 2 _ _ h.blk
  have HN := Lib.hid hnil
  clear hnil
  go_enter Try.func33, Try.ntmps33
  go_wp2_with fail
  go_quiet (fail)
  have ownq := h.own.drewN nq
  have slq := hsl.drewN nq
  have c0' : (w.drewN nq).cell? ⟨b, 0, none⟩ = some (.slice va zs.length vc) := c0
  have c2' : (w.drewN nq).cell? ⟨b, 2, none⟩ = some (.bool false) := c2
  have hbase' : base ≤ (w.drewN nq).heap.size := hbase
  have kq : Kept (Fp b (.slice va zs.length vc)) w (w.drewN nq) := (Kept.refl _ w).drewN nq
  have blkq : (w.drewN nq).heap[b]? = _ := h.blk
  have hsq : OwnStep (w.drewN nq) (.slice va zs.length vc) = OwnStep w (.slice va zs.length vc) := rfl
  have HSQ := Lib.hid hsq
  have HBQ := Lib.hid blkq
  clear c0 c1 c2 f2 hsq blkq hlt
  generalize w.drewN nq = wq at *
  go_wp2_with (at_builtin; refine wpList_appJ rfl (.tmp 29) (.tmp 30) _ rfl .u8 base 5 _ 1 Try.underlying24 Try.infoU8 rfl _ zs rfl ownq _ _ _ ns rfl slq HN.out (by omega) (by omega) hbase' ?_; intro v' w' ow' hg' st'; have blk' := (hg'.block b (Array.getElem?_eq_some_iff.1 HBQ.out).1 (fun e => h.ne e.symm)).trans HBQ.out; have nb := st'.ne (Array.getElem?_eq_some_iff.1 HBQ.out).1 h.ne; have k' : Kept (Fp b (.slice va zs.length vc)) w w' := kq.trans (Kept.of_grown hg') (fun i hi => .inl (.inr hi)); have s' : OwnStep w (.slice va zs.length vc) v' := (by rw [← HSQ.out]; exact st'); obtain ⟨va', vc', rfl, _, _⟩ := ow'.sl; rw [List.length_append] at ow' s' nb ⊢; have d0 : w'.cell? ⟨b, 0, none⟩ = some (.slice va zs.length vc) := (by rw [cell_of_row w' b 0 _ _ _ blk']; rfl); have e0 : w'.frozen? ⟨b, 0, none⟩ = false := frozen_of_row w' b 0 _ _ blk'; have BLK := Lib.hid blk'; clear hg' st' blk')
  go_end0
  exact ⟨_, rfl, BufB.setV BLK.out ow' nb h.new, k'.setCell (p := ⟨b, 0, none⟩) (.inl (.inl rfl)) _, s'⟩
/-- Bytes behind the others: what becomes of the buffer. -/
theorem raw_calls (w : World) (base b : Nat) (most : Int) (st : List Int × Bool) (v : Value) (h : BufB w base b most st v) (a : Option Addr) (n c : Nat) (ns : List Int) (hsl : SlI .u8 w a n c ns) (hnil : a = none → c = 0) (h0 : 0 ≤ most) (h1 : most ≤ 9223372036854775807) (hb : st.1.length + n ≤ 140737488355328) :
    Calls Try.prog 33 #[.pointer (some ⟨b, 0, none⟩), .slice a n c] w (PutBufB w base b most (putF most st ns) v) := by
  obtain ⟨zs, f⟩ := st
  have hb' : zs.length + n ≤ 140737488355328 := hb
  have hl := hsl.len
  cases f with
  | true =>
    refine (raw_full w base b most zs v h a n c h0 h1 (by omega) (by omega)).mono fun e w' ⟨he, hB, hk⟩ => ⟨v, he, ?_, hk, .inl rfl⟩
    have : putF most (zs, true) ns = (zs, true) := by simp [putF]
    rw [this]; exact hB
  | false =>
    by_cases hlt : most - (zs.length : Int) < (n : Int)
    · refine (raw_long w base b most zs v h a n c h0 h1 (by omega) (by omega) hlt).mono fun e w' ⟨he, hB, hk⟩ => ⟨v, he, ?_, hk, .inl rfl⟩
      have : putF most (zs, false) ns = (zs, true) := by unfold putF; rw [if_neg (by simp), if_pos (by rw [hl]; exact hlt)]
      rw [this]; exact hB
    · refine (raw_fits w base b most zs v h a n c ns hsl hnil h0 h1 (by omega) (by omega) (by omega) hb').mono fun e w' ⟨v', he, hB, hk, hs⟩ => ⟨v', he, ?_, hk, hs⟩
      have : putF most (zs, false) ns = (zs ++ ns, false) := by unfold putF; rw [if_neg (by simp), if_neg (by rw [hl]; exact hlt)]
      rw [this]; exact hB

end Go.Proofs.Ytjgcmnppiaikcaa
