/- UtfChecks: Next and Check of both sides, and the walk over a text that ends at the first fault. -/
import Derived.Test.YthloijpnbljpeaaUtfWalk2
import Derived.Test.YthloijpnbljpeaaUtfC
set_option linter.unusedVariables false
namespace Go.Tk
open Go Go.RowKit
theorem row_below {W X : World} {n₀ e size : Nat} {v : Value} {k : Nat} {xs : List Value} (h : W.ownsRow n₀ e size v k xs) (hb : Below W.heap.size W X) : X.ownsRow n₀ e size v k xs := by
  rcases h with ⟨a, ⟨e1, e2⟩ | ⟨g, cap, cur, e1, e2, e3, e4⟩⟩
  · exact ⟨a, .inl ⟨e1, e2⟩⟩
  · exact ⟨a, .inr ⟨g, cap, cur, e1, e2, (hb.block g (lt_of_block e3)).trans e3, e4⟩⟩
theorem grown_row {w W X : World} {tmp : Obj} {e size : Nat} {v : Value} {k : Nat} {xs : List Value} (h : W.ownsRow w.heap.size e size v k xs) (hb : Below w.heap.size w W) (hg : (W.alloc tmp).grownBy X v.ownBlock) : Below w.heap.size w X := by
  refine (hb.alloc hb.size tmp).grown hg (by have := hb.size; simp; omega) fun j ej => ?_
  rcases h.2 with ⟨rfl, _⟩ | ⟨g, cap, cur, rfl, hb, _, _⟩
  · simp [Value.ownBlock] at ej
  · obtain rfl : g = j := by simpa [Value.ownBlock] using ej
    exact hb
end Go.Tk
namespace Go.Proofs.Ythloijpnbljpeaa
open Go.RowKit Go.Shelf Go.Tk
set_option maxRecDepth 100000 in
set_option maxHeartbeats 4000000 in
theorem utfchecks_go (w : World) (s : ByteArray) (x m : Int) (hs : s.size ≤ 1048576) (hm : -9223372036854775808 ≤ m ∧ m ≤ 9223372036854775807) :
    Calls Try.prog 4 #[.string s, .int .i64 x, .int .i64 m] w fun e w' => e = .returned (.bool true) ∧ Below w.heap.size w w' := by
  obtain ⟨i0, hi, hz0, hz1, hz2⟩ := info_parts Try.infoSeen
  have HI := Lib.hid hi
  have HZ0 := Lib.hid hz0
  have HZ1 := Lib.hid hz1
  have HZ2 := Lib.hid hz2
  clear hi hz0 hz1 hz2
  obtain ⟨M, hM⟩ : ∃ M : Nat, M = (max 0 m).toNat := ⟨_, rfl⟩
  have hMb : M ≤ 9223372036854775807 := by omega
  have hmx : (if 0 < m then m else 0) = (M : Int) := by split <;> omega
  have hwk := fun w => walked_calls s M w hs hMb
  rw [← hmx] at hwk
  have hnx := fun w => next_calls s x w (by omega)
  have hrx := fun w => rnext_calls s x w (by omega)
  have hck := fun w => check_calls s w (by omega)
  have hrk := fun w => rcheck_calls s w (by omega)
  have hrn := fun (k : Nat) (w : World) => rnext_calls s (k : Int) w (by omega)
  simp only [nextI_at] at hrn
  obtain ⟨l, hl⟩ : ∃ l, l = s.data.toList := ⟨_, rfl⟩
  have hll : l.length = s.size := by rw [hl, Lib.size_eq]
  rw [← hl] at hwk hnx hrx hck hrk hrn
  obtain ⟨c, hc⟩ : ∃ c, c = chkF l 0 := ⟨_, rfl⟩
  rw [← hc] at hck hrk
  have hbd : 0 ≤ (nextI l x).1 ∧ (nextI l x).1 ≤ 1114111 := by
    unfold nextI; split
    · simp
    · exact dec_fst_bd _
  obtain ⟨r, n, hd⟩ : ∃ r n, nextI l x = (r, n) := ⟨_, _, rfl⟩
  rw [hd] at hnx hrx hbd
  simp only at hbd
  have e1 : (c != c) = false := by simp
  have e2 : (r != r) = false := by simp
  have e3 : ((n : Int) != (n : Int)) = false := by simp
  have HWK := Lib.hid hwk
  have HNX := Lib.hid hnx
  have HRX := Lib.hid hrx
  have HCK := Lib.hid hck
  have HRK := Lib.hid hrk
  have HRN := Lib.hid hrn
  have HLL := Lib.hid hll
  have HM := Lib.hid hM
  have HMX := Lib.hid (show max 0 m = (M : Int) by omega)
  clear hmx hl hc hd hwk hnx hrx hck hrk hrn hll hM
  go_enter Try.func4, Try.ntmps4
  go_wp2_with (first
    | (go_at_call 11; refine (HNX.out _).mono ?_; rintro e w1 ⟨rfl, rfl⟩)
    | (go_at_call 12; refine (HRX.out _).mono ?_; rintro e w1 ⟨rfl, hb1⟩; (have HB1 := Lib.hid hb1); clear hb1)
    | (go_at_call 13; refine (HCK.out _).mono ?_; rintro e w2 ⟨rfl, rfl⟩)
    | (go_at_call 14; refine (HRK.out _).mono ?_; rintro e w3 ⟨rfl, hb3⟩; (have HB3 := Lib.hid (HB1.out.trans (hb3.mono HB1.out.size))); clear hb3))
  go_loopw [9, 10, 11, 12] (fun _ _ iv av wr => ∃ (k : Nat) (acc : List (Nat × Int)), iv = .int .i64 (k : Nat) ∧ k ≤ s.size ∧ acc.length ≤ M ∧ acc.length ≤ k ∧ wr.ownsRow w.heap.size 38 2 av acc.length (seenCs acc) ∧ Below w.heap.size w wr ∧ acc ++ (seenL (l.drop k) k).take (M - acc.length) = (seenL l 0).take M) (fun _ _ iv _ _ => s.size - (intOf iv).toNat)
  case atStart => exact ⟨0, [], rfl, Nat.zero_le _, Nat.zero_le _, Nat.zero_le _, World.ownsRow_nil _ _ _ _, HB3.out, by simp⟩
  case round =>
    obtain ⟨k, acc, rfl, hk, haM, hak, hrow, hBW, hacc⟩ := hrel
    obtain ⟨a1, c1, rfl⟩ := ownsRow_slice hrow
    have HBW := Lib.hid hBW
    have hbase := hBW.size
    clear hBW
    have fin : (seenL (l.drop k) k).take (M - acc.length) = [] → acc = (seenL l 0).take M := by intro h; rw [h, List.append_nil] at hacc; exact hacc
    by_cases hlt : k < s.size
    · by_cases hlm : acc.length < M
      · have e4 : decide ((acc.length : Int) < m) = true := decide_eq_true (by have := HMX.out; omega)
        obtain ⟨r2, n2, hd⟩ : ∃ r n, dec (l.drop k) = (r, n) := ⟨_, _, rfl⟩
        have hle := dec_le (l.drop k)
        rw [List.length_drop, HLL.out, hd] at hle
        simp only at hle
        have hcall := fun w => HRN.out k w
        rw [hd] at hcall
        have HCALL := Lib.hid hcall
        clear hcall
        by_cases hn : n2 = 0
        · have hb0 : ((n2 : Int) == 0) = true := by simp [hn]
          have hac := fin (by rw [seenL_bad k (by rw [hd]; exact hn)]; simp)
          have hwk2 := HWK.out; simp only [← hac] at hwk2; have HWK2 := Lib.hid hwk2; have HACL := Lib.hid (show acc.length ≤ 9223372036854775807 by omega); clear hwk2
          have HROW := Lib.hid hrow
          clear hac fin hacc hd hn hrow hle
          go_wp2_with (first
            | (go_at_call 12; refine (HCALL.out _).mono ?_; rintro e w4 ⟨rfl, hb4⟩; (have HBW4 := Lib.hid (HBW.out.trans (hb4.mono HBW.out.size))); (have HROW4 := Lib.hid (row_below HROW.out hb4)); clear hb4)
            | (go_at_call 15; refine (HWK2.out _).mono ?_; rintro e w5 ⟨v5, rfl, hr5, hb5⟩; (have HR5 := Lib.hid hr5); (have HB5 := Lib.hid hb5); (have hra := row_below HROW4.out hb5); (have HRA := Lib.hid hra); clear hr5 hb5 hra)
            | (go_at_call 16; refine (sameSeen_calls _ _ _ _ _ acc HACL.out HR5.out HRA.out).mono ?_; rintro e w6 ⟨rfl, n6, rfl⟩))
          all_goals (go_ret; exact ⟨rfl, below_drewN (HBW4.out.trans (HB5.out.mono HBW4.out.size)) _⟩)
        · have hb0 : ((n2 : Int) == 0) = false := by simp [hn]
          have hst := seenL_step (l := l.drop k) k (by rw [hd]; exact hn)
          rw [hd] at hst
          have hnew : (acc ++ [(k, r2)]) ++ (seenL (l.drop (k + n2)) (k + n2)).take (M - (acc ++ [(k, r2)]).length) = (seenL l 0).take M := by
            rw [← hacc, hst, List.drop_drop]
            obtain ⟨q, hq⟩ : ∃ q, M - acc.length = q + 1 := ⟨M - acc.length - 1, by omega⟩
            rw [hq, List.take_succ_cons, List.append_assoc]
            have : M - (acc ++ [(k, r2)]).length = q := by simp; omega
            rw [this]; rfl
          have HNEW := Lib.hid hnew
          have HROW := Lib.hid hrow
          clear hnew hst fin hacc hd hrow
          go_wp2_with (first
            | (go_at_call 12; refine (HCALL.out _).mono ?_; rintro e w4 ⟨rfl, hb4⟩; (have HBW4 := Lib.hid (HBW.out.trans (hb4.mono HBW.out.size))); (have HROW4 := Lib.hid (row_below HROW.out hb4)); clear hb4)
            | (at_builtin; go_loud (refine wpList_append_own _ rfl _ _ 36 rfl w.heap.size 38 i0 (.agg #[.int .i64 0, .int .i64 0]) 2 16 Try.underlying36 HI.out HZ0.out HZ1.out HZ2.out rfl (by decide) _ _ _ rfl (HROW4.out.alloc _) ⟨w4.heap.size, 0, none⟩ 1 1 [.int .i64 (k : Nat), .int .i64 r2] rfl rfl (cell_two_new _ _ _ _) (by simp [Value.oneCell']) (by unfold maxLen; omega) (by omega) (by have := HBW4.out.size; simp; omega) ?_; intro v' w5 hown' hgrow _; obtain ⟨g', cap', rfl⟩ := ownsRow_succ hown'; (have HR5 := Lib.hid hown'); (have HB5 := Lib.hid (grown_row HROW4.out HBW4.out hgrow)); clear hown' hgrow)))
          go_roundw
          case rel => exact ⟨k + n2, acc ++ [(k, r2)], by go_num, by omega, by simp; omega, by simp; omega, by rw [seenCs_snoc, List.length_append]; exact HR5.out, HB5.out, HNEW.out⟩
          case measure => simp [intOf]; omega
      · have e4 : decide ((acc.length : Int) < m) = false := decide_eq_false (by have := HMX.out; omega)
        have hac := fin (by have : M - acc.length = 0 := by omega
                            rw [this]; simp)
        have hwk2 := HWK.out; simp only [← hac] at hwk2; have HWK2 := Lib.hid hwk2; have HACL := Lib.hid (show acc.length ≤ 9223372036854775807 by omega); clear hwk2
        have HROW := Lib.hid hrow
        clear hac fin hacc hrow
        go_wp2_with (first
          | (go_at_call 15; refine (HWK2.out _).mono ?_; rintro e w5 ⟨v5, rfl, hr5, hb5⟩; (have HR5 := Lib.hid hr5); (have HB5 := Lib.hid hb5); (have hra := row_below HROW.out hb5); (have HRA := Lib.hid hra); clear hr5 hb5 hra)
            | (go_at_call 16; refine (sameSeen_calls _ _ _ _ _ acc HACL.out HR5.out HRA.out).mono ?_; rintro e w6 ⟨rfl, n6, rfl⟩))
        all_goals (go_ret; exact ⟨rfl, below_drewN (HBW.out.trans (HB5.out.mono HBW.out.size)) _⟩)
    · have hac := fin (by rw [List.drop_of_length_le (by rw [HLL.out]; omega), seenL_nil]; simp)
      have hwk2 := HWK.out; simp only [← hac] at hwk2; have HWK2 := Lib.hid hwk2; have HACL := Lib.hid (show acc.length ≤ 9223372036854775807 by omega); clear hwk2
      have HROW := Lib.hid hrow
      clear hac fin hacc hrow
      go_wp2_with (first
        | (go_at_call 15; refine (HWK2.out _).mono ?_; rintro e w5 ⟨v5, rfl, hr5, hb5⟩; (have HR5 := Lib.hid hr5); (have HB5 := Lib.hid hb5); (have hra := row_below HROW.out hb5); (have HRA := Lib.hid hra); clear hr5 hb5 hra)
            | (go_at_call 16; refine (sameSeen_calls _ _ _ _ _ acc HACL.out HR5.out HRA.out).mono ?_; rintro e w6 ⟨rfl, n6, rfl⟩))
      all_goals (go_ret; exact ⟨rfl, below_drewN (HBW.out.trans (HB5.out.mono HBW.out.size)) _⟩)
theorem utfchecks_go' (w : World) (s : ByteArray) (hs : s.size ≤ 1048576) (x : Int) (hx : (Lit.int .i64 x).wf = true) (m : Int) (hm : (Lit.int .i64 m).wf = true) :
    Calls Try.prog 4 #[.string s, .int .i64 x, .int .i64 m] w fun e w' => e = .returned (.bool true) ∧ Below w.heap.size w w' :=
  utfchecks_go w s x m hs (by simp [Lit.wf, IntKind.min, IntKind.max, IntKind.signed, IntKind.bits] at hm; omega)
end Go.Proofs.Ythloijpnbljpeaa
