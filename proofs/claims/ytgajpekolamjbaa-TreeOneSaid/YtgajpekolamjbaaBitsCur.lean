/- BitsBuf4 BitsAsk BitsCur, laid as one. -/
import Derived.Test.YtgajpekolamjbaaBitsBuf3
import Derived.Test.YtgajpekolamjbaaOwnC
import Derived.WalkSpells
import Derived.Test.YtgajpekolamjbaaSamesameBytes18
set_option linter.unusedVariables false
set_option linter.unusedSimpArgs false
/- Buffers: Len, New, Bytes; the reference's New and Bytes. -/
namespace Go.Proofs.Ytgajpekolamjbaa
open Go.RowKit Go.Tk
theorem new_calls (w : World) (base : Nat) (hb : base ≤ w.heap.size) (m : Int) (m0 : -9223372036854775808 ≤ m) (m1 : m ≤ 9223372036854775807) :
    Calls Try.prog 35 #[.int .i64 m] w fun e w' => e = .returned (.pointer (some ⟨w.heap.size, 0, none⟩)) ∧ BufB w' base w.heap.size (max m 0) ([], false) (.slice none 0 0) ∧ Kept (fun _ => False) w w' := by
  have hk : Kept (fun _ => False) w (w.alloc (.cells #[.slice none 0 0, .int .i64 (max m 0), .bool false] 129)) := (Kept.refl _ w).alloc _
  have hB : BufB (w.alloc (.cells #[.slice none 0 0, .int .i64 (max m 0), .bool false] 129)) base w.heap.size (max m 0) ([], false) (.slice none 0 0) :=
    ⟨by show (w.heap.push _)[w.heap.size]? = _; rw [Array.getElem?_push, if_pos rfl], Ow.nil _ _ _ _, by simp [Value.ownBlock], hb⟩
  have fin : ∀ m' : Int, max m 0 = m' → m' = max m 0 := fun _ h => h.symm
  rcases Int.lt_trichotomy m 0 with hm | rfl | hm
  · rw [show max m 0 = 0 by omega] at hk hB ⊢
    clear fin
    go_enter Try.func35, Try.ntmps35
    go_wp2
    go_ret
    exact ⟨rfl, hB, hk⟩
  · rw [show max (0:Int) 0 = 0 by omega] at hk hB ⊢
    clear fin
    go_enter Try.func35, Try.ntmps35
    go_wp2
    go_ret
    exact ⟨rfl, hB, hk⟩
  · rw [show max m 0 = m by omega] at hk hB ⊢
    clear fin
    go_enter Try.func35, Try.ntmps35
    go_wp2
    go_ret
    exact ⟨rfl, hB, hk⟩
theorem clone_calls (w : World) (a : Option Addr) (n c : Nat) (zs : List Int) (h : SlI .u8 w a n c zs) (hnil : a = none → c = 0) (hn : n ≤ 140737488355328) :
    Calls Try.prog 87 #[.slice a n c] w (NewRow w zs) := by
  have hl := h.len
  have hle := h.le
  cases a with
  | none =>
    obtain rfl : c = 0 := hnil rfl
    obtain rfl : n = 0 := by omega
    obtain rfl : zs = [] := List.length_eq_zero_iff.1 hl
    have hE := fun w => Lib.run_eql_slice_nil w 25 5 none 0 0 0 0 Try.underlying25
    go_enter Try.func87, Try.ntmps87
    go_wp2
    go_ret
    exact ⟨_, rfl, Ow.nil _ _ _ _, Kept.refl _ _⟩
  | some a =>
    have hE := fun w => Lib.run_eql_slice_nil w 25 5 (some a) n c 0 0 Try.underlying25
    have HN := Lib.hid hnil
    have HL := Lib.hid hl
    have hzl : zs.length ≤ 140737488355328 := by omega
    clear hnil hl
    go_enter Try.func87, Try.ntmps87
    have hs0 : SlI .u8 (w.alloc (.cells #[] 5)) (some a) n c zs := h.alloc _
    have hr : RowI .u8 5 (w.alloc (.cells #[] 5)) w.heap.size [] := by show (w.heap.push _)[w.heap.size]? = _; rw [Array.getElem?_push, if_pos rfl]; rfl
    have how : Ow .u8 5 w.heap.size (w.alloc (.cells #[] 5)) (.slice (some ⟨w.heap.size, 0, none⟩) 0 0) [] := hr.ow (Nat.le_refl _) (by simp)
    have HR := Lib.hid hr
    clear hr
    go_wp2_with (at_builtin; refine wpList_appJ rfl (.tmp 5) (.tmp 6) _ rfl .u8 w.heap.size 5 _ 1 Try.underlying25 Try.infoU8 rfl _ [] rfl how _ _ _ zs rfl hs0 (by simp) (by simp; omega) (by simp; omega) (by simp) ?_; intro v' w' ow' hg' st'; have k' : Kept (fun _ => False) w w' := ((Kept.refl _ w).alloc _).trans (Kept.of_grown hg') (fun i hi => .inr (how.lt i hi).1); clear hg' st')
    go_ret
    exact ⟨_, rfl, ow', k'⟩
theorem clip_calls (w : World) (a : Option Addr) (n c : Nat) (hnc : n ≤ c) (hc : c ≤ 9223372036854775807) (hnil : a = none → c = 0) :
    Calls Try.prog 86 #[.slice a n c] w fun e w' => e = .returned (.slice a n n) ∧ w = w' := by
  cases a with
  | none =>
    obtain rfl : c = 0 := hnil rfl
    obtain rfl : n = 0 := by omega
    go_enter Try.func86, Try.ntmps86
    go_wp2
    go_ret
    exact ⟨rfl, rfl⟩
  | some a =>
    have HN := Lib.hid hnil
    clear hnil
    go_enter Try.func86, Try.ntmps86
    go_wp2
    go_ret
    exact ⟨rfl, rfl⟩
/-- What Bytes answers. -/
def BytesB (w : World) (st : List Int × Bool) (e : Ending) (w' : World) : Prop := ∃ v, e = .returned (.tuple #[v, .int .i64 (if st.2 = true then 1 else 0)]) ∧ OwC .u8 5 w.heap.size w' v (if st.2 = true then [] else st.1) ∧ Kept (fun _ => False) w w'
theorem bytes_calls (w : World) (base b : Nat) (most : Int) (st : List Int × Bool) (v : Value) (h : BufB w base b most st v) (hb : st.1.length ≤ 140737488355328) :
    Calls Try.prog 44 #[.pointer (some ⟨b, 0, none⟩)] w (BytesB w st) := by
  obtain ⟨zs, f⟩ := st
  have hb' : zs.length ≤ 140737488355328 := hb
  clear hb
  obtain ⟨va, vc, rfl, hs, _⟩ := h.own.sl
  have hmx : (zs, f).1 = zs := rfl
  have c0 : w.cell? ⟨b, 0, none⟩ = some (.slice va zs.length vc) := by rw [cell_of_row w b 0 _ _ _ h.blk]; rfl
  have c2 : w.cell? ⟨b, 2, none⟩ = some (.bool f) := by rw [cell_of_row w b 2 _ _ _ h.blk]; rfl
  have hn : va = none → vc = 0 := fun e => by subst e; exact h.own.nil_cap
  have HS := Lib.hid hs
  have HN := Lib.hid hn
  clear hmx hn hs
  cases f with
  | true =>
    go_enter Try.func44, Try.ntmps44
    go_wp2
    go_ret2
    exact ⟨_, rfl, ⟨none, 0, rfl, Ow.nil _ _ _ _⟩, Kept.refl _ _⟩
  | false =>
    go_enter Try.func44, Try.ntmps44
    go_wp2_with (first
      | (go_at_call 87; refine (clone_calls _ _ _ _ _ HS.out HN.out hb').mono ?_; rintro e w1 ⟨v', rfl, ow', k'⟩; obtain ⟨a', c', rfl, _, _⟩ := ow'.sl; have hx := ow'.max; have hy : a' = none → c' = 0 := (fun e => by subst e; exact ow'.nil_cap); have HY := Lib.hid hy; have hx1 := hx.2.1; have hx2 := hx.2.2; clear hy hx)
      | (go_at_call 86; refine (clip_calls _ _ _ _ hx1 hx2 HY.out).mono ?_; rintro e w2 ⟨rfl, rfl⟩))
    go_ret2
    exact ⟨_, rfl, ⟨_, _, rfl, ow'⟩, k'⟩
/-- What the reference's Bytes answers. -/
def BytesR (w : World) (st : List Int × Bool) (e : Ending) (w' : World) : Prop := ∃ v, e = .returned (.tuple #[v, .int .i64 (if st.2 = true then 1 else 0)]) ∧ Ow .u8 5 w.heap.size w' v (if st.2 = true then [] else st.1) ∧ Kept (fun _ => False) w w'
end Go.Proofs.Ytgajpekolamjbaa
/- What a buffer has, asked twice. -/
namespace Go.Proofs.Ytgajpekolamjbaa
open Go.RowKit Go.Tk
theorem quiet_draw {P : Program} {f : FuncId} {args : Array Value} {w : World} {n : Nat} {v : Value}
    (h : Calls P f args (w.drewN n) fun e w' => e = .returned v ∧ ∃ m, w' = (w.drewN n).drewN m) : Calls P f args (w.drewN n) fun e w'' => e = .returned v ∧ ∃ m, w'' = w.drewN m :=
  h.mono fun _ _ ⟨he, m, hm⟩ => ⟨he, n + m, by rw [hm]; simp [World.drewN, Nat.add_assoc]⟩
theorem sameB_self (z : List Int) : sameB z z = true := by simp [sameB]
end Go.Proofs.Ytgajpekolamjbaa
/- Cursors: where they stand, what is left, what is wrong, the next bytes. -/
namespace Go.Proofs.Ytgajpekolamjbaa
open Go.RowKit Go.Tk
/-- A bits.Cursor in memory: the bytes z, the place i, the error e. -/
structure CurC (w : World) (c : Nat) (a : Option Addr) (cap : Nat) (z : List Int) (i : Nat) (e : Int) : Prop where
  blk : w.heap[c]? = some (.cells #[.slice a z.length cap, .int .i64 i, .int .i64 e] 154 (0, 0))
  sl : SlI .u8 w a z.length cap z
  nil : a = none → cap = 0
  ne : ∀ x, a = some x → x.block ≠ c
  le : i ≤ z.length
theorem CurC.drewN {w : World} {c : Nat} {a : Option Addr} {cap : Nat} {z : List Int} {i : Nat} {e : Int} (h : CurC w c a cap z i e) (n : Nat) : CurC (w.drewN n) c a cap z i e := ⟨h.blk, h.sl.drewN n, h.nil, h.ne, h.le⟩
theorem CurC.kept {S : Nat → Prop} {w w' : World} {c : Nat} {a : Option Addr} {cap : Nat} {z : List Int} {i : Nat} {e : Int} (h : CurC w c a cap z i e) (hk : Kept S w w') (hc : ¬ S c) (ha : ∀ x, a = some x → ¬ S x.block) : CurC w' c a cap z i e :=
  ⟨(hk.block c (Array.getElem?_eq_some_iff.1 h.blk).1 hc).trans h.blk, h.sl.kept hk ha, h.nil, h.ne, h.le⟩
theorem CurC.setE {w : World} {c : Nat} {a : Option Addr} {cap : Nat} {z : List Int} {i : Nat} {e : Int} (h : CurC w c a cap z i e) (e' : Int) : CurC (w.setCell ⟨c, 2, none⟩ (.int .i64 e')) c a cap z i e' :=
  ⟨by rw [heap_setCell_same w c 2 _ _ _ h.blk]; rfl, h.sl.kept ((Kept.refl (fun k => k = c) w).setCell (.inl rfl) _) h.ne, h.nil, h.ne, h.le⟩
theorem CurC.setI {w : World} {c : Nat} {a : Option Addr} {cap : Nat} {z : List Int} {i : Nat} {e : Int} (h : CurC w c a cap z i e) (i' : Nat) (hi : i' ≤ z.length) : CurC (w.setCell ⟨c, 1, none⟩ (.int .i64 i')) c a cap z i' e :=
  ⟨by rw [heap_setCell_same w c 1 _ _ _ h.blk]; rfl, h.sl.kept ((Kept.refl (fun k => k = c) w).setCell (.inl rfl) _) h.ne, h.nil, h.ne, hi⟩
section
variable {w : World} {c : Nat} {a : Option Addr} {cap : Nat} {z : List Int} {i : Nat} {e : Int}
theorem CurC.c0 (h : CurC w c a cap z i e) : w.cell? ⟨c, 0, none⟩ = some (.slice a z.length cap) := by rw [cell_of_row w c 0 _ _ _ h.blk]; rfl
theorem CurC.c1 (h : CurC w c a cap z i e) : w.cell? ⟨c, 1, none⟩ = some (.int .i64 i) := by rw [cell_of_row w c 1 _ _ _ h.blk]; rfl
theorem CurC.c2 (h : CurC w c a cap z i e) : w.cell? ⟨c, 2, none⟩ = some (.int .i64 e) := by rw [cell_of_row w c 2 _ _ _ h.blk]; rfl
theorem CurC.fr (h : CurC w c a cap z i e) (k : Nat) : w.frozen? ⟨c, k, none⟩ = false := frozen_of_row w c k _ _ h.blk
end
theorem at_calls (w : World) (c : Nat) (a : Option Addr) (cap : Nat) (z : List Int) (i : Nat) (e : Int) (h : CurC w c a cap z i e) :
    Calls Try.prog 55 #[.pointer (some ⟨c, 0, none⟩)] w fun e' w' => e' = .returned (.int .i64 i) ∧ w = w' := by
  have c1 := h.c1
  go_enter Try.func55, Try.ntmps55
  go_wp2
  go_ret
  exact ⟨rfl, rfl⟩
theorem err_calls (w : World) (c : Nat) (a : Option Addr) (cap : Nat) (z : List Int) (i : Nat) (e : Int) (h : CurC w c a cap z i e) :
    Calls Try.prog 96 #[.pointer (some ⟨c, 0, none⟩)] w fun e' w' => e' = .returned (.int .i64 e) ∧ w = w' := by
  have c2 := h.c2
  go_enter Try.func96, Try.ntmps96
  go_wp2
  go_ret
  exact ⟨rfl, rfl⟩
/-- What End says. -/
def endE (len i : Nat) (e : Int) : Int := if e = 0 ∧ i < len then 13 else e
end Go.Proofs.Ytgajpekolamjbaa
