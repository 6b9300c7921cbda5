/- Buffers: Len, New, Bytes; the reference's New and Bytes. -/
import Derived.Test.YtjgcmnppiaikcaaBitsBuf3
import Derived.Test.YtjgcmnppiaikcaaOwnC
import Derived.WalkSpells
set_option linter.unusedVariables false
set_option linter.unusedSimpArgs false
namespace Go.Proofs.Ytjgcmnppiaikcaa
open Go.RowKit Go.Tk
theorem len_calls (w : World) (base b : Nat) (most : Int) (st : List Int × Bool) (v : Value) (h : BufB w base b most st v) :
    Calls Try.prog 31 #[.pointer (some ⟨b, 0, none⟩)] w fun e w' => e = .returned (.int .i64 st.1.length) ∧ w = w' := by
  obtain ⟨va, vc, rfl, hs, _⟩ := h.own.sl
  have c0 : w.cell? ⟨b, 0, none⟩ = some (.slice va st.1.length vc) := by rw [cell_of_row w b 0 _ _ _ h.blk]; rfl
  have hm := hs.max
  have hl := hs.le
  go_enter Try.func31, Try.ntmps31
  go_wp2
  go_ret
  exact ⟨rfl, rfl⟩
theorem new_calls (w : World) (base : Nat) (hb : base ≤ w.heap.size) (m : Int) (m0 : -9223372036854775808 ≤ m) (m1 : m ≤ 9223372036854775807) :
    Calls Try.prog 30 #[.int .i64 m] w fun e w' => e = .returned (.pointer (some ⟨w.heap.size, 0, none⟩)) ∧ BufB w' base w.heap.size (max m 0) ([], false) (.slice none 0 0) ∧ Kept (fun _ => False) w w' := by
  have hk : Kept (fun _ => False) w (w.alloc (.cells #[.slice none 0 0, .int .i64 (max m 0), .bool false] 107)) := (Kept.refl _ w).alloc _
  have hB : BufB (w.alloc (.cells #[.slice none 0 0, .int .i64 (max m 0), .bool false] 107)) base w.heap.size (max m 0) ([], false) (.slice none 0 0) :=
    ⟨by show (w.heap.push _)[w.heap.size]? = _; rw [Array.getElem?_push, if_pos rfl], Ow.nil _ _ _ _, by simp [Value.ownBlock], hb⟩
  have fin : ∀ m' : Int, max m 0 = m' → m' = max m 0 := fun _ h => h.symm
  rcases Int.lt_trichotomy m 0 with hm | rfl | hm
  · rw [show max m 0 = 0 by omega] at hk hB ⊢
    clear fin
    go_enter Try.func30, Try.ntmps30
    go_wp2
    go_ret
    exact ⟨rfl, hB, hk⟩
  · rw [show max (0:Int) 0 = 0 by omega] at hk hB ⊢
    clear fin
    go_enter Try.func30, Try.ntmps30
    go_wp2
    go_ret
    exact ⟨rfl, hB, hk⟩
  · rw [show max m 0 = m by omega] at hk hB ⊢
    clear fin
    go_enter Try.func30, Try.ntmps30
    go_wp2
    go_ret
    exact ⟨rfl, hB, hk⟩
theorem clone_calls (w : World) (a : Option Addr) (n c : Nat) (zs : List Int) (h : SlI .u8 w a n c zs) (hnil : a = none → c = 0) (hn : n ≤ 140737488355328) :
    Calls Try.prog 60 #[.slice a n c] w (NewRow w zs) := by
  have hl := h.len
  have hle := h.le
  cases a with
  | none =>
    obtain rfl : c = 0 := hnil rfl
    obtain rfl : n = 0 := by omega
    obtain rfl : zs = [] := List.length_eq_zero_iff.1 hl
    have hE := fun w => Lib.run_eql_slice_nil w 24 5 none 0 0 0 0 Try.underlying24
    go_enter Try.func60, Try.ntmps60
    go_wp2
    go_ret
    exact ⟨_, rfl, Ow.nil _ _ _ _, Kept.refl _ _⟩
  | some a =>
    have hE := fun w => Lib.run_eql_slice_nil w 24 5 (some a) n c 0 0 Try.underlying24
    have HN := Lib.hid hnil
    have HL := Lib.hid hl
    have hzl : zs.length ≤ 140737488355328 := by omega
    clear hnil hl
    go_enter Try.func60, Try.ntmps60
    have hs0 : SlI .u8 (w.alloc (.cells #[] 5)) (some a) n c zs := h.alloc _
    have hr : RowI .u8 5 (w.alloc (.cells #[] 5)) w.heap.size [] := by show (w.heap.push _)[w.heap.size]? = _; rw [Array.getElem?_push, if_pos rfl]; rfl
    have how : Ow .u8 5 w.heap.size (w.alloc (.cells #[] 5)) (.slice (some ⟨w.heap.size, 0, none⟩) 0 0) [] := hr.ow (Nat.le_refl _) (by simp)
    have HR := Lib.hid hr
    clear hr
    go_wp2_with (at_builtin; refine wpList_appJ rfl (.tmp 5) (.tmp 6) _ rfl .u8 w.heap.size 5 _ 1 Try.underlying24 Try.infoU8 rfl _ [] rfl how _ _ _ zs rfl hs0 (by simp) (by simp; omega) (by simp; omega) (by simp) ?_; intro v' w' ow' hg' st'; have k' : Kept (fun _ => False) w w' := ((Kept.refl _ w).alloc _).trans (Kept.of_grown hg') (fun i hi => .inr (how.lt i hi).1); clear hg' st')
    go_ret
    exact ⟨_, rfl, ow', k'⟩
theorem clip_calls (w : World) (a : Option Addr) (n c : Nat) (hnc : n ≤ c) (hc : c ≤ 9223372036854775807) (hnil : a = none → c = 0) :
    Calls Try.prog 59 #[.slice a n c] w fun e w' => e = .returned (.slice a n n) ∧ w = w' := by
  cases a with
  | none =>
    obtain rfl : c = 0 := hnil rfl
    obtain rfl : n = 0 := by omega
    go_enter Try.func59, Try.ntmps59
    go_wp2
    go_ret
    exact ⟨rfl, rfl⟩
  | some a =>
    have HN := Lib.hid hnil
    clear hnil
    go_enter Try.func59, Try.ntmps59
    go_wp2
    go_ret
    exact ⟨rfl, rfl⟩
/-- What Bytes answers. -/
def BytesB (w : World) (st : List Int × Bool) (e : Ending) (w' : World) : Prop := ∃ v, e = .returned (.tuple #[v, .int .i64 (if st.2 = true then 1 else 0)]) ∧ OwC .u8 5 w.heap.size w' v (if st.2 = true then [] else st.1) ∧ Kept (fun _ => False) w w'
theorem bytes_calls (w : World) (base b : Nat) (most : Int) (st : List Int × Bool) (v : Value) (h : BufB w base b most st v) (hb : st.1.length ≤ 140737488355328) :
    Calls Try.prog 35 #[.pointer (some ⟨b, 0, none⟩)] w (BytesB w st) := by
  obtain ⟨zs, f⟩ := st
  have hb' : zs.length ≤ 140737488355328 := hb
  clear hb
  obtain ⟨va, vc, rfl, hs, _⟩ := h.own.sl
  have hmx : (zs, f).1 = zs := rfl
  have c0 : w.cell? ⟨b, 0, none⟩ = some (.slice va zs.length vc) := by rw [cell_of_row w b 0 _ _ _ h.blk]; rfl
  have c2 : w.cell? ⟨b, 2, none⟩ = some (.bool f) := by rw [cell_of_row w b 2 _ _ _ h.blk]; rfl
  have hn : va = none → vc = 0 := fun e => by subst e; exact h.own.nil_cap
  have HS := Lib.hid hs
  have HN := Lib.hid hn
  clear hmx hn hs
  cases f with
  | true =>
    go_enter Try.func35, Try.ntmps35
    go_wp2
    go_ret2
    exact ⟨_, rfl, ⟨none, 0, rfl, Ow.nil _ _ _ _⟩, Kept.refl _ _⟩
  | false =>
    go_enter Try.func35, Try.ntmps35
    go_wp2_with (first
      | (go_at_call 60; refine (clone_calls _ _ _ _ _ HS.out HN.out hb').mono ?_; rintro e w1 ⟨v', rfl, ow', k'⟩; obtain ⟨a', c', rfl, _, _⟩ := ow'.sl; have hx := ow'.max; have hy : a' = none → c' = 0 := (fun e => by subst e; exact ow'.nil_cap); have HY := Lib.hid hy; have hx1 := hx.2.1; have hx2 := hx.2.2; clear hy hx)
      | (go_at_call 59; refine (clip_calls _ _ _ _ hx1 hx2 HY.out).mono ?_; rintro e w2 ⟨rfl, rfl⟩))
    go_ret2
    exact ⟨_, rfl, ⟨_, _, rfl, ow'⟩, k'⟩
/-- What the reference's Bytes answers. -/
def BytesR (w : World) (st : List Int × Bool) (e : Ending) (w' : World) : Prop := ∃ v, e = .returned (.tuple #[v, .int .i64 (if st.2 = true then 1 else 0)]) ∧ Ow .u8 5 w.heap.size w' v (if st.2 = true then [] else st.1) ∧ Kept (fun _ => False) w w'
end Go.Proofs.Ytjgcmnppiaikcaa
