/- The document's guess. -/
import Derived.Test.YthloijpnbljpeaaUtfN
import Derived.Deep.RegionHeld3
import Derived.Deep.RegionWith
import Derived.Deep.DrawnRows
set_option linter.unusedVariables false
set_option linter.unusedSimpArgs false
namespace Go.Tk
open Go Go.RowKit
def bndG (m : Nat) : Int := if m = 1 then 300 else if m = 2 then 20000 else if m = 3 then 1300000 else 84000000
theorem bndG_le (m : Nat) : bndG m ≤ 84000000 := by unfold bndG; split; · omega
                                                    split; · omega
                                                    split <;> omega
theorem bndG_step {m : Nat} {r c : Int} (h1 : 1 ≤ m) (h2 : m < 4) (h : r < bndG m) (h' : -bndG m < r) (c0 : 0 ≤ c) (hc : c < 256) : r * 64 + c - 128 < bndG (m + 1) ∧ -bndG (m + 1) < r * 64 + c - 128 := by
  obtain rfl | rfl | rfl : m = 1 ∨ m = 2 ∨ m = 3 := by omega
  all_goals simp [bndG] at h h' ⊢; omega
theorem SlI.bytes {P : Program} {w : World} {src e dst : TypeId} {a : Option Addr} {c : Nat} {b : List UInt8} (hs : P.underlying src = some (.slice e)) (he : P.underlying e = some (.int .u8)) (hd : P.underlying dst = some .string)
    (h : SlI .u8 w a b.length c (nums b)) : (convert src dst (.slice a b.length c)).run P w = .ok (.string ⟨b.toArray⟩) w := by
  by_cases hb : b = []
  · subst hb
    cases a with
    | none => exact run_convert_bytes_nil w src e hs he 0 c dst hd
    | some x => exact run_convert_bytes_back w src dst e x c [] hs he hd (fun j hj => by simp at hj)
  · have h0 : 0 < b.length := List.length_pos_iff.2 hb
    obtain ⟨g, o, rfl, _⟩ := h.cell 0 h0
    refine run_convert_bytes_back w src dst e ⟨g, o, none⟩ c b hs he hd fun j hj => ?_
    obtain ⟨g', o', he', hc⟩ := h.cell j hj
    obtain ⟨rfl, rfl⟩ : g = g' ∧ o = o' := by simpa using he'
    rw [Addr.add_lit, hc, nums_getD b j hj]
theorem SlI.len0 {k : IntKind} {w : World} {a : Option Addr} {n c : Nat} {b : List UInt8} (h : SlI k w a n c (nums b)) : n = b.length := by rw [← h.len, nums_len]
theorem gnum_one {b : List UInt8} (h : 1 ≤ b.length) : gnum b = gFold (b.drop 1) (((b[0]'h).toNat : Int) - gBase b.length) := by
  cases b with
  | nil => simp at h
  | cons x t => simp [gnum]
theorem gFold_step {b : List UInt8} {m : Nat} (h : m < b.length) (r : Int) : gFold (b.drop m) r = gFold (b.drop (m + 1)) (r * 64 + ((b[m]).toNat : Int) - 128) := by
  rw [List.drop_eq_getElem_cons h]; rfl
end Go.Tk
namespace Go.Proofs.Ythloijpnbljpeaa
open Go.RowKit Go.Tk
/-- guess's table. -/
def gTab : Array Value := #[.int .i64 0, .int .i64 0, .int .i64 192, .int .i64 224, .int .i64 240]
theorem gTab_cell (w : World) (n : Nat) (h : n ≤ 4) : (w.alloc (.cells gTab 59 (0, 0))).cell? ⟨w.heap.size, n, none⟩ = some (.int .i64 (gBase n)) := by
  rw [World.cell?_alloc_mark]
  obtain rfl | rfl | rfl | rfl | rfl : n = 0 ∨ n = 1 ∨ n = 2 ∨ n = 3 ∨ n = 4 := by omega
  all_goals rfl
theorem rencB_calls (r : Int) (w : World) (h : scalarB r = true) :
    Calls Try.prog 9 #[.int .i64 r] w fun e w' => e = .returned (.slice (some ⟨w.heap.size, 0, none⟩) (encB r).length (encB r).length) ∧ Fresh .u8 5 w w' w.heap.size (nums (encB r)) := by
  obtain ⟨a, b, _⟩ := (scalarB_iff r).1 h
  have := rbytes_calls r w a b
  have e := nums_encB a b
  have el : (encB r).length = (encZ r).length := by rw [← e, nums_len]
  rw [e, el]
  exact this
set_option maxHeartbeats 4000000 in
set_option maxRecDepth 100000 in
theorem guess_calls (w : World) (a : Option Addr) (n c : Nat) (b : List UInt8) (h : SlI .u8 w a n c (nums b)) (h1 : 1 ≤ n) (h4 : n ≤ 4) :
    Calls Try.prog 22 #[.slice a n c] w fun e w' => e = .returned (.int .i64 (guessI b)) ∧ Below w.heap.size w w' := by
  have hn := h.len0
  obtain ⟨g, o, rfl, e0⟩ := h.cell 0 h1
  have hle := h.le
  have hm := h.max
  rw [nums_getD b 0 (by omega)] at e0
  obtain ⟨x, hx⟩ : ∃ x : Int, x = ((b[0]'(by omega)).toNat : Int) := ⟨_, rfl⟩
  rw [← hx, Nat.add_zero] at e0
  have hx0 : 0 ≤ x ∧ x < 256 := by rw [hx]; have := UInt8.toNat_lt (b[0]'(by omega)); omega
  obtain ⟨hx0, hx1⟩ := hx0
  have hg1 : gnum b = gFold (b.drop 1) (x - gBase n) := by rw [gnum_one (by omega), ← hx, ← hn]
  have HG1 := Lib.hid hg1
  have HN := Lib.hid hn
  clear hx hg1 hn
  have hlt := block_lt_of_cell e0
  obtain ⟨w1, hw1⟩ : ∃ w1, w1 = w.alloc (.cells gTab 59 (0, 0)) := ⟨_, rfl⟩
  have hb1 : Below w.heap.size w w1 := by rw [hw1]; exact (Below.refl _ _).alloc (Nat.le_refl _) _
  have ht := gTab_cell w n h4
  obtain ⟨y, hy⟩ : ∃ y : Int, y = gBase n := ⟨_, rfl⟩
  have hy0 : 0 ≤ y ∧ y ≤ 240 := by rw [hy]; unfold gBase; repeat' split
                                   all_goals omega
  obtain ⟨hy0, hy1⟩ := hy0
  rw [← hy, ← hw1] at ht
  have h' : SlI .u8 w1 (some ⟨g, o, none⟩) n c (nums b) := h.below hb1 (by simpa using hlt)
  have e0' : w1.cell? ⟨g, o, none⟩ = some (.int .u8 x) := (hb1.cell (p := ⟨g, o, none⟩) hlt).trans e0
  have HY := Lib.hid hy
  have HW1 := Lib.hid hw1
  clear hy hw1 e0
  go_enter Try.func22, Try.ntmps22
  go_wp2_with fail
  rw [show (w.alloc (.cells #[.int .i64 0, .int .i64 0, .int .i64 192, .int .i64 224, .int .i64 240] 59)) = w1 from HW1.out.symm]
  go_quiet (fail)
  go_wp2_with fail
  have h2 : SlI .u8 (w1.drewN nq) (some ⟨g, o, none⟩) n c (nums b) := h'.drewN nq
  have hb2 : Below w.heap.size w (w1.drewN nq) := below_drewN hb1 nq
  clear h h' hb1 ht e0'
  generalize w1.drewN nq = w2 at *
  go_loop [4, 5] (fun r i => ∃ (m : Nat) (z : Int), 1 ≤ m ∧ m ≤ n ∧ i = .int .i64 (m : Nat) ∧ r = .int .i64 z ∧ z < bndG m ∧ -bndG m < z ∧ gFold (b.drop m) z = gnum b) (fun _ i => n - (intOf i).toNat)
  case atStart => exact ⟨1, _, Nat.le_refl _, h1, rfl, rfl, by simp [bndG]; omega, by simp [bndG]; omega, by rw [HG1.out, HY.out]⟩
  case round =>
    obtain ⟨m, z, hm1, hmn, rfl, rfl, hz1, hz2, hf⟩ := hrel
    have HF := Lib.hid hf
    clear hf
    have hbm := bndG_le m
    by_cases hlt' : m < n
    · obtain ⟨g', o', he', hc⟩ := h2.cell m hlt'
      obtain ⟨rfl, rfl⟩ : g = g' ∧ o = o' := by simpa using he'
      have hmb : m < b.length := by have := HN.out; omega
      rw [nums_getD b m hmb] at hc
      have hstep := gFold_step hmb z
      obtain ⟨v, hv⟩ : ∃ v : Int, v = ((b[m]).toNat : Int) := ⟨_, rfl⟩
      have hv0 : 0 ≤ v ∧ v < 256 := by rw [hv]; have := UInt8.toNat_lt b[m]; omega
      obtain ⟨hv0, hv1⟩ := hv0
      rw [← hv] at hc hstep
      have hs1 := bndG_step hm1 (by omega) hz1 hz2 hv0 hv1
      obtain ⟨hs1, hs2⟩ := hs1
      have HS := Lib.hid hstep
      clear hv he' hstep
      go_wp2_with fail
      go_round
      case rel => exact ⟨m + 1, z * 64 + v - 128, by omega, by omega, by go_num, rfl, hs1, hs2, by rw [← HS.out, HF.out]⟩
      case measure => simp [intOf]; omega
    · have hz : z = gnum b := by
        have := HF.out
        rw [List.drop_of_length_le (by have := HN.out; omega)] at this
        exact this
      subst hz
      have hcv : (convert 22 9 (.slice (some ⟨g, o, none⟩) n c)).run Try.prog w2 = .ok (.string ⟨b.toArray⟩) w2 := by
        have := h2
        have hn := HN.out
        subst hn
        exact this.bytes Try.underlying22 Try.underlying5 Try.underlying9
      cases hsc : scalarB (gnum b) with
      | false =>
        have hfin := guess_no (b := b) (by intro e; have := HN.out; rw [e] at this; simp at this; omega) (fun h => by rw [hsc] at h; cases h.1)
        have HFIN := Lib.hid hfin
        clear hfin
        go_wp2_with (go_at_call 7; refine (rscalar_calls _ _).mono ?_; rintro e w' ⟨rfl, rfl⟩)
        go_quiet (fail)
        go_wp2_with fail
        go_ret
        exact ⟨ret_int HFIN.out.symm, below_drewN hb2 _⟩
      | true =>
        go_wp2_with (go_at_call 7; refine (rscalar_calls _ _).mono ?_; rintro e w' ⟨rfl, rfl⟩)
        have hall : ∀ w', Below w2.heap.size w2 w' → (convert 22 9 (.slice (some ⟨g, o, none⟩) n c)).run Try.prog w' = .ok (.string ⟨b.toArray⟩) w' := fun w' hb => by
          have := h2.below hb (by rintro x hx; simp at hx; subst hx; have := hb2.size; simp; omega)
          have hn := HN.out
          subst hn
          exact this.bytes Try.underlying22 Try.underlying5 Try.underlying9
        have HALL := Lib.hid hall
        clear hall
        have hcd : (convert 22 9 (.slice (some ⟨g, o, none⟩) n c)).run Try.prog w2.drew = .ok (.string ⟨b.toArray⟩) w2.drew := HALL.out _ (below_drewN (Below.refl _ _) 1)
        have hex : ∀ w', Fresh .u8 5 w2.drew w' w2.heap.size (nums (encB (gnum b))) → (convert 22 9 (.slice (some ⟨w2.heap.size, 0, none⟩) (encB (gnum b)).length (encB (gnum b)).length)).run Try.prog w' = .ok (.string ⟨(encB (gnum b)).toArray⟩) w' ∧
            (convert 22 9 (.slice (some ⟨g, o, none⟩) n c)).run Try.prog w' = .ok (.string ⟨b.toArray⟩) w' ∧ Below w.heap.size w w' := by
          intro w' hfr
          have hs := (hfr.row.sl (encB (gnum b)).length (encB (gnum b)).length (by rw [nums_len]; exact Nat.le_refl _) (nums_len _) (by
            have := encZ_len (gnum b); rw [← nums_encB' hsc, nums_len] at this; omega))
          rw [List.take_of_length_le (by rw [nums_len]; exact Nat.le_refl _)] at hs
          exact ⟨hs.bytes Try.underlying22 Try.underlying5 Try.underlying9, HALL.out w' ⟨hfr.below.os, hfr.below.tape, hfr.below.output, hfr.below.size, hfr.below.block⟩, (below_drewN hb2 1).trans (hfr.below.mono hb2.size)⟩
        have HEX := Lib.hid hex
        clear hex
        by_cases heq : encB (gnum b) = b
        · have hfin := guess_yes hsc (by rw [← nums_encB' hsc, heq])
          have hcmp : (encB (gnum b) == b) = true := by simpa using heq
          have HFIN := Lib.hid hfin
          clear hfin heq
          first
            | go_region_with (first
              | (go_at_call 9; refine (rencB_calls _ _ hsc).mono ?_; rintro e w' ⟨rfl, hfr⟩; obtain ⟨q1, q2, q3⟩ := HEX.out w' hfr))
            | fail
          all_goals go_wp2_with fail
          all_goals go_ret
          all_goals exact ⟨ret_int HFIN.out.symm, q3⟩
        · have hfin := guess_no (b := b) (by intro e; have := HN.out; rw [e] at this; simp at this; omega) (fun h => heq (nums_inj (by rw [nums_encB' hsc, h.2])))
          have hcmp : (encB (gnum b) == b) = false := by simpa using heq
          have HFIN := Lib.hid hfin
          clear hfin heq
          first
            | go_region_with (first
              | (go_at_call 9; refine (rencB_calls _ _ hsc).mono ?_; rintro e w' ⟨rfl, hfr⟩; obtain ⟨q1, q2, q3⟩ := HEX.out w' hfr))
            | fail
          all_goals go_wp2_with fail
          all_goals go_ret
          all_goals exact ⟨ret_int HFIN.out.symm, q3⟩
end Go.Proofs.Ythloijpnbljpeaa
