/- What 'wrote' does, call by call. -/
import Derived.Test.YtgkbkkhlnidigaaBitsPair
set_option linter.unusedVariables false
set_option linter.unusedSimpArgs false
namespace Go.Proofs.Ytgkbkkhlnidigaa
open Go.RowKit Go.Tk
set_option maxRecDepth 100000 in
set_option maxHeartbeats 1000000 in
theorem wrote3 (w : World) (base p q : Nat) (most : Int) (st : List Int × Bool) (v u : Value) (h : Pr w base p q most st v u) (n k : Int) (ba : Option Addr) (bl bc : Nat) (two : Bool) (n0 : 0 ≤ n) (n1 : n < 18446744073709551616) (k0 : -9223372036854775808 ≤ k) (k1 : k ≤ 9223372036854775807) (h0 : 0 ≤ most) (h1 : most ≤ 9223372036854775807) (hb : st.1.length + 20 ≤ 140737488355000) :
    Calls Try.prog 21 #[.pointer (some ⟨p, 0, none⟩), .pointer (some ⟨q, 0, none⟩), .agg #[.int .i64 3, .int .u64 n, .int .i64 k, .slice ba bl bc, .bool two]] w (WroteP w base p q most (putF most st (vz n)) v u) := by
  have ka : Kept (fun _ => False) w (w.alloc (.cells #[.int .i64 3, .int .u64 n, .int .i64 k, .slice ba bl bc, .bool two] 53)) := (Kept.refl _ w).alloc _
  have hx : BoxO (w.alloc (.cells #[.int .i64 3, .int .u64 n, .int .i64 k, .slice ba bl bc, .bool two] 53)) w.heap.size ⟨3, n, k, ba, bl, bc, [], two⟩ := box_new w ⟨3, n, k, ba, bl, bc, [], two⟩
  have ha := h.kept ka (fun _ _ h => h)
  have hxl := hx.lt
  have hnf : ∀ k, Fp2 p q v u k → k < w.heap.size := fun k hk => (h.lt k hk).2
  have KA := Lib.hid ka
  clear ka
  go_enter Try.func21, Try.ntmps21
  have hvl := (vz_len n).2
  go_wp2_with (go_at_call 34; refine (varint_calls _ base p most st v ha.B n n0 n1 h0 h1 (by omega)).mono ?_; rintro e w1 hp; obtain ⟨v', rfl, hh⟩ := ha.half hp; have x1 := hx.kept hh.K (fun hf => by have := hnf _ (.inl hf); omega); have c1 := x1.c1; have c2 := x1.c2; clear hp)
  go_wp2_with (first | (go_at_call 52; refine (rvarint_calls _ n n0 n1).mono ?_; rintro e wk ⟨vk, rfl, owk, kk⟩; obtain ⟨xa, xc, rfl, skk, _⟩ := owk.sl; have hnk : xa = none → xc = 0 := (fun e => by subst e; exact owk.nil_cap); have HNK := Lib.hid hnk; clear hnk) | (go_at_call 51; refine (put_calls _ base q most st u (hh.R.kept kk (fun _ _ h => h)) _ _ _ (vz n) skk HNK.out h0 h1 (by omega)).mono ?_; rintro e w3 hp2; obtain ⟨u', rfl, hP, hK, s1, s2⟩ := hh.whole (T := fun _ => False) (fun _ h => h.elim) (fun _ _ h => h) kk hp2; obtain ⟨ua, uc, rfl, hus, _⟩ := hP.R.own.sl; have ul := hus.le; have um := hus.max; have cq : w3.cell? ⟨q, 1, none⟩ = some (.slice ua _ uc) := (by rw [cell_of_row w3 q 1 _ _ _ hP.R.blk]; rfl); clear hp2))
  have q3 := fun n => quiet_eq (len_calls (w3.drewN n) base p most _ _ (hP.B.drewN n))
  go_quiet ((go_at_call 31; with_reducible exact q3 _))
  go_wp2
  go_ret
  exact (Tail.mk hP hK s1 s2 KA.out.size).wrote KA.out _
set_option maxRecDepth 100000 in
set_option maxHeartbeats 1000000 in
theorem wrote4 (w : World) (base p q : Nat) (most : Int) (st : List Int × Bool) (v u : Value) (h : Pr w base p q most st v u) (n k : Int) (ba : Option Addr) (bl bc : Nat) (two : Bool) (n0 : 0 ≤ n) (n1 : n < 18446744073709551616) (k0 : -9223372036854775808 ≤ k) (k1 : k ≤ 9223372036854775807) (h0 : 0 ≤ most) (h1 : most ≤ 9223372036854775807) (hb : st.1.length + 20 ≤ 140737488355000) :
    Calls Try.prog 21 #[.pointer (some ⟨p, 0, none⟩), .pointer (some ⟨q, 0, none⟩), .agg #[.int .i64 4, .int .u64 n, .int .i64 k, .slice ba bl bc, .bool two]] w (WroteP w base p q most (putF most st (fz n (oct k))) v u) := by
  have ka : Kept (fun _ => False) w (w.alloc (.cells #[.int .i64 4, .int .u64 n, .int .i64 k, .slice ba bl bc, .bool two] 53)) := (Kept.refl _ w).alloc _
  have hx : BoxO (w.alloc (.cells #[.int .i64 4, .int .u64 n, .int .i64 k, .slice ba bl bc, .bool two] 53)) w.heap.size ⟨4, n, k, ba, bl, bc, [], two⟩ := box_new w ⟨4, n, k, ba, bl, bc, [], two⟩
  have ha := h.kept ka (fun _ _ h => h)
  have hxl := hx.lt
  have hnf : ∀ k, Fp2 p q v u k → k < w.heap.size := fun k hk => (h.lt k hk).2
  have KA := Lib.hid ka
  clear ka
  go_enter Try.func21, Try.ntmps21
  have hvl : (fz n (oct k)).length ≤ 8 := by rw [fz_len]; exact oct_le k
  go_wp2_with (go_at_call 35; refine (fixed_calls _ base p most st v ha.B n k n0 n1 k0 k1 h0 h1 (by omega)).mono ?_; rintro e w1 hp; obtain ⟨v', rfl, hh⟩ := ha.half hp; have x1 := hx.kept hh.K (fun hf => by have := hnf _ (.inl hf); omega); have c1 := x1.c1; have c2 := x1.c2; clear hp)
  go_wp2_with (first | (go_at_call 53; refine (rfixed_calls _ n k n0 n1 k0 k1).mono ?_; rintro e wk ⟨vk, rfl, owk, kk⟩; obtain ⟨xa, xc, rfl, skk, _⟩ := owk.sl; have hnk : xa = none → xc = 0 := (fun e => by subst e; exact owk.nil_cap); have HNK := Lib.hid hnk; clear hnk) | (go_at_call 51; refine (put_calls _ base q most st u (hh.R.kept kk (fun _ _ h => h)) _ _ _ (fz n (oct k)) skk HNK.out h0 h1 (by omega)).mono ?_; rintro e w3 hp2; obtain ⟨u', rfl, hP, hK, s1, s2⟩ := hh.whole (T := fun _ => False) (fun _ h => h.elim) (fun _ _ h => h) kk hp2; obtain ⟨ua, uc, rfl, hus, _⟩ := hP.R.own.sl; have ul := hus.le; have um := hus.max; have cq : w3.cell? ⟨q, 1, none⟩ = some (.slice ua _ uc) := (by rw [cell_of_row w3 q 1 _ _ _ hP.R.blk]; rfl); clear hp2))
  have q3 := fun n => quiet_eq (len_calls (w3.drewN n) base p most _ _ (hP.B.drewN n))
  go_quiet ((go_at_call 31; with_reducible exact q3 _))
  go_wp2
  go_ret
  exact (Tail.mk hP hK s1 s2 KA.out.size).wrote KA.out _
set_option maxRecDepth 100000 in
set_option maxHeartbeats 1000000 in
theorem wrote7 (w : World) (base p q : Nat) (most : Int) (st : List Int × Bool) (v u : Value) (h : Pr w base p q most st v u) (n k : Int) (ba : Option Addr) (bl bc : Nat) (two : Bool) (hb : st.1.length + 20 ≤ 140737488355000) :
    Calls Try.prog 21 #[.pointer (some ⟨p, 0, none⟩), .pointer (some ⟨q, 0, none⟩), .agg #[.int .i64 7, .int .u64 n, .int .i64 k, .slice ba bl bc, .bool two]] w (WroteP w base p q most st v u) := by
  have ka : Kept (fun _ => False) w (w.alloc (.cells #[.int .i64 7, .int .u64 n, .int .i64 k, .slice ba bl bc, .bool two] 53)) := (Kept.refl _ w).alloc _
  have ha := h.kept ka (fun _ _ h => h)
  have KA := Lib.hid ka
  clear ka
  go_enter Try.func21, Try.ntmps21
  go_wp2_with (go_at_call 22; refine (asked_calls _ base p q most st v u ha.B ha.R (by omega)).mono ?_; rintro e w1 ⟨rfl, hk⟩)
  go_ret
  have kf : Kept (fun _ => False) w w1 := KA.out.trans hk (fun _ h => h.elim)
  exact ⟨v, u, rfl, h.kept kf (fun _ _ h => h), kf.mono (fun _ h => h.elim), .inl rfl, .inl rfl⟩
set_option maxRecDepth 100000 in
set_option maxHeartbeats 1000000 in
theorem wrote0 (w : World) (base p q : Nat) (most : Int) (st : List Int × Bool) (v u : Value) (h : Pr w base p q most st v u) (kind n k : Int) (ba : Option Addr) (bl bc : Nat) (two : Bool) (hb : st.1.length + 20 ≤ 140737488355000) (d0 : -9223372036854775808 ≤ kind) (d9 : kind ≤ 9223372036854775807)
    (d1 : ¬ kind = 1) (d2 : ¬ kind = 2) (d3 : ¬ kind = 3) (d4 : ¬ kind = 4) (d7 : ¬ kind = 7) :
    Calls Try.prog 21 #[.pointer (some ⟨p, 0, none⟩), .pointer (some ⟨q, 0, none⟩), .agg #[.int .i64 kind, .int .u64 n, .int .i64 k, .slice ba bl bc, .bool two]] w (WroteP w base p q most st v u) := by
  have ka : Kept (fun _ => False) w (w.alloc (.cells #[.int .i64 kind, .int .u64 n, .int .i64 k, .slice ba bl bc, .bool two] 53)) := (Kept.refl _ w).alloc _
  have ha := h.kept ka (fun _ _ h => h)
  obtain ⟨w3, hw3⟩ : ∃ w3, w3 = w.alloc (.cells #[.int .i64 kind, .int .u64 n, .int .i64 k, .slice ba bl bc, .bool two] 53) := ⟨_, rfl⟩
  obtain ⟨ua, uc, rfl, hus, _⟩ := ha.R.own.sl
  have ul := hus.le
  have um := hus.max
  have cq := by have := cell_of_row _ q 1 _ _ _ ha.R.blk; exact this
  have q3 := fun n => quiet_eq (len_calls (World.drewN _ n) base p most _ _ (ha.B.drewN n))
  have KA := Lib.hid ka
  clear ka hw3
  go_enter Try.func21, Try.ntmps21
  go_wp2
  go_quiet ((go_at_call 31; with_reducible exact q3 _))
  go_wp2
  go_ret
  exact ⟨_, _, rfl, ha.drewN _, (KA.out.mono (fun _ h => h.elim)).drewN _, .inl rfl, .inl rfl⟩
end Go.Proofs.Ytgkbkkhlnidigaa
