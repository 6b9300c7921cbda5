/- The document's Each; asked. -/
import Derived.Test.YtpphjiialgmidaaRkRa
import Derived.Test.YtpphjiialgmidaaRankWalks
set_option linter.unusedVariables false
set_option linter.unusedSimpArgs false
namespace Go.Tk
open Go Go.RowKit
theorem intZs_snoc (L : List Nat) (x : Nat) : intZs (L ++ [x]) = intZs L ++ [(x : Int)] := by simp [intZs]
theorem intZs_take (L : List Nat) (m : Nat) : (intZs L).take m = intZs (L.take m) := by simp [intZs, List.map_take]
theorem ow_zi {k : IntKind} {e : TypeId} {base : Nat} {w : World} {v : Value} {zs : List Int} (h : Ow k e base w v zs) : ∃ z, z = zs ∧ Ow k e base w v z := ⟨_, rfl, h⟩
end Go.Tk
namespace Go.Proofs.Ytpphjiialgmidaa
open Go.RowKit Go.Tk
set_option maxRecDepth 100000 in
set_option maxHeartbeats 2000000 in
theorem reach_calls (w : World) (a : Option Addr) (n c : Nat) (d : List UInt8) (N : Nat) (h : SlI .u8 w a n c (nums d)) (hN : N ≤ 67108864) (hl : N ≤ 8 * d.length) (fr : Int) (hfr : -9223372036854775808 ≤ fr ∧ fr ≤ 9223372036854775807) :
    Calls Try.prog 55 #[.slice a n c, .int .i64 (N : Nat), .int .i64 fr] w fun e w' => ∃ v, e = .returned v ∧ Ow .i64 3 w.heap.size w' v (intZs (eachL (btB d) N fr.toNat)) ∧ Below w.heap.size w w' := by
  have hb := fun (w' : World) (hb : Below w.heap.size w w') (i : Nat) (hi : i < N) => bit_calls w' a n c d i (h.keep hb) (by omega) (by omega)
  have hmx : max 0 fr = ((fr.toNat : Nat) : Int) := by omega
  have hmx2 : max fr 0 = ((fr.toNat : Nat) : Int) := by omega
  have HB := Lib.hid hb
  have HMX := Lib.hid hmx
  have HMX2 := Lib.hid hmx2
  clear h hb hmx hmx2
  obtain ⟨L, hL⟩ : ∃ L, L = eachL (btB d) N fr.toNat := ⟨_, rfl⟩
  have hLl : L.length ≤ N := by rw [hL]; have := each_len (btB d) N fr.toNat; omega
  rw [← hL]
  have HL := Lib.hid hL
  clear hL
  go_enter Try.func55, Try.ntmps55
  go_wp2
  go_loopw [7, 8] (fun ov iv wr => ∃ (i : Nat) (pre : List Nat), iv = .int .i64 (i : Nat) ∧ (i : Int) ≤ 9223372036854775807 ∧ L = pre ++ eachL (btB d) N i ∧ Ow .i64 3 w.heap.size wr ov (intZs pre) ∧ Below w.heap.size w wr) (fun _ iv _ => N - (intOf iv).toNat)
  case atStart => exact ⟨fr.toNat, [], by first | (rw [HMX.out]) | (rw [HMX2.out]) | rfl, by omega, HL.out, Ow.nil _ _ _ _, Below.refl _ _⟩
  case round =>
    obtain ⟨i, pre, rfl, hi, hx, how, hbl⟩ := hrel
    have HX := Lib.hid hx
    have HOW := Lib.hid how
    have HBL := Lib.hid hbl
    have hpl : pre.length ≤ N := by have := congrArg List.length hx; rw [List.length_append] at this; omega
    clear hx how hbl
    by_cases hin : i < N
    · have hbi := HB.out wr HBL.out i hin
      obtain ⟨B, hB⟩ : ∃ B, B = btB d i := ⟨_, rfl⟩
      rw [← hB] at hbi
      have HBI := Lib.hid hbi
      have HBB := Lib.hid hB
      clear hbi hB
      cases B with
      | false =>
        have hnx : L = pre ++ eachL (btB d) N (i + 1) := by rw [HX.out, each_miss HBB.out.symm]
        have HNX := Lib.hid hnx
        clear hnx
        go_wp2_with (go_at_call 36; (with_reducible refine HBI.out.mono ?_); rintro e wz ⟨rfl, rfl⟩)
        go_roundw
        case rel => exact ⟨i + 1, pre, by go_num, by omega, HNX.out, HOW.out, HBL.out⟩
        case measure => simp [intOf]; omega
      | true =>
        have hnx : L = (pre ++ [i]) ++ eachL (btB d) N (i + 1) := by rw [HX.out, each_hit hin HBB.out.symm, List.append_assoc]; rfl
        have HNX := Lib.hid hnx
        have hzl := intZs_len pre
        have HZL := Lib.hid hzl
        clear hnx hzl
        have hsz := HBL.out.size
        go_wp2_with (first
          | (go_at_call 36; (with_reducible refine HBI.out.mono ?_); rintro e wz ⟨rfl, rfl⟩)
          | (at_builtin; refine wpList_appJ rfl (.tmp 19) (.tmp 21) _ rfl .i64 w.heap.size 3 _ 8 Try.underlying59 Try.infoI64 rfl _ _ rfl (HOW.out.alloc _) _ 1 1 _ rfl (SlI.one _ _ _ _) (by simp) (by rw [HZL.out]; omega) (by rw [HZL.out]; omega) (by simp; omega) ?_; intro v' w' ow' hg' st'; (obtain ⟨z', hz', ow''⟩ := ow_zi ow'); (have HOW2 := Lib.hid ow''); (have HZ' := Lib.hid hz'); (have HB2 := Lib.hid ((HBL.out.alloc hsz _).grown hg' (by simp; omega) (fun j hj => (HOW.out.lt j hj).1))); clear ow' hg' st' hz' ow''))
        go_roundw
        case rel => exact ⟨i + 1, pre ++ [i], by go_num, by omega, HNX.out, by rw [intZs_snoc, ← HZ'.out]; exact HOW2.out, HB2.out⟩
        case measure => simp [intOf]; omega
    · have hend : L = pre := by rw [HX.out, each_end (by omega)]; simp
      have HE := Lib.hid hend
      clear hend
      go_wp2
      go_ret
      exact ⟨_, rfl, by rw [HE.out]; exact HOW.out, HBL.out⟩
end Go.Proofs.Ytpphjiialgmidaa
