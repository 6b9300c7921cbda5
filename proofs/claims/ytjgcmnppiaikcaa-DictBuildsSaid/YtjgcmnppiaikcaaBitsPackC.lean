/- The document's Pack. -/
import Derived.Test.YtjgcmnppiaikcaaBitsPackB
set_option linter.unusedVariables false
set_option linter.unusedSimpArgs false
namespace Go.Proofs.Ytjgcmnppiaikcaa
open Go.RowKit Go.Tk
theorem rpack_bad (w : World) (a : Option Addr) (n c : Nat) (wd : Int) (hno : ¬ (0 ≤ wd ∧ wd ≤ 64)) :
    Calls Try.prog 41 #[.slice a n c, .int .i64 wd] w fun e w' => e = .returned (.tuple #[.slice none 0 0, .int .i64 14]) ∧ Below w.heap.size w w' := by
  by_cases h0 : wd < 0
  · go_enter Try.func41, Try.ntmps41
    go_wp2
    go_ret2
    exact ⟨rfl, Below.refl _ _⟩
  · have h1 : 64 < wd := by omega
    go_enter Try.func41, Try.ntmps41
    go_wp2
    go_ret2
    exact ⟨rfl, Below.refl _ _⟩
set_option maxRecDepth 100000 in
theorem rpack_yes (w : World) (a : Option Addr) (n c : Nat) (zs : List Int) (h : SlI .u64 w a n c zs) (hu : U64 zs) (d : Nat) (h1 : d ≤ 64) (hn : n ≤ 17592186044416) :
    Calls Try.prog 41 #[.slice a n c, .int .i64 (d : Int)] w fun e w' => (anyW zs (d : Int) = true → e = .returned (.tuple #[.slice none 0 0, .int .i64 14]) ∧ Below w.heap.size w w') ∧ (anyW zs (d : Int) = false → PackPost w zs (d : Int) n e w') := by
  obtain ⟨i0, hi, hz0, hz1, hz2⟩ := info_parts Try.infoU8
  have hnd : n * d ≤ n * 64 := Nat.mul_le_mul_left n (by omega)
  have r0 : (0 : Int) ≤ (n : Int) * (d : Int) := by rw [← Int.natCast_mul]; omega
  have r1 : (n : Int) * (d : Int) ≤ 4611686018427387904 := by rw [← Int.natCast_mul]; omega
  obtain ⟨R, hR⟩ : ∃ R : Nat, R = (n * d + 7) / 8 := ⟨_, rfl⟩
  have hR' : ((n : Int) * (d : Int) + 7) / 8 = (R : Int) := by rw [← Int.natCast_mul, hR]; omega
  have hR2 : R ≤ 140737488355328 := by omega
  have HR := Lib.hid hR
  have HR' := Lib.hid hR'
  have l1 := Lib.hid h.len
  have m1 := h.le
  have m2 := h.max
  clear hR hR'
  go_enter Try.func41, Try.ntmps41
  go_wp2_with fail
  go_loop [6] (fun i => ∃ k : Nat, k ≤ n ∧ i = .int .i64 (k : Nat) ∧ ∀ j, j < k → bw (zs.getD j 0) ≤ (d : Int)) (fun i => n - (intOf i).toNat)
  case atStart => exact ⟨0, by omega, rfl, fun j hj => by omega⟩
  case round =>
    obtain ⟨k, hk, rfl, ht⟩ := hrel
    have HT := Lib.hid ht
    clear ht
    by_cases hlt : k < n
    · obtain ⟨b1, o1, rfl, e1⟩ := h.cell k hlt
      obtain ⟨u0, u1⟩ := hu k (by rw [l1.out]; exact hlt)
      obtain ⟨x, hx⟩ : ∃ x, x = zs.getD k 0 := ⟨_, rfl⟩
      rw [← hx] at e1 u0 u1
      have HX := Lib.hid hx
      clear hx
      by_cases hw : (d : Int) < bw x
      · go_wp2_with (go_at_call 42; refine (rwidth_calls _ _ u0 u1).mono ?_; rintro e w' ⟨rfl, rfl⟩)
        go_ret2
        have ha : anyW zs (d : Int) = true := anyW_yes (k := k) (by rw [l1.out]; exact hlt) (by rw [← HX.out]; exact hw)
        exact ⟨fun _ => ⟨rfl, Below.refl _ _⟩, fun h' => by rw [ha] at h'; cases h'⟩
      · go_wp2_with (go_at_call 42; refine (rwidth_calls _ _ u0 u1).mono ?_; rintro e w' ⟨rfl, rfl⟩)
        go_round
        case rel => exact ⟨k + 1, by omega, by go_num, fun j hj => by
          by_cases e : j = k
          · subst e; rw [← HX.out]; omega
          · exact HT.out j (by omega)⟩
        case measure => simp [intOf]; omega
    · obtain rfl : n = k := by omega
      have ha : anyW zs (d : Int) = false := anyW_no (fun j hj => HT.out j (by have := l1.out; omega))
      have HA := Lib.hid ha
      clear ha
      go_wp2_with (first
        | (go_at_call 66; refine (rroom_calls _ _ _ r0 r1).mono ?_; rintro e w' ⟨rfl, rfl⟩; rw [HR'.out])
        | (at_make; refine wpList_mk rfl _ _ _ rfl 5 i0 (.int .u8 0) 1 Try.underlying24 hi hz0 hz1 hz2 rfl _ _ _ _ R rfl rfl rfl rfl (by omega) (by omega) ?_; intro w1 hw1 hb1))
      have B1 : Below w.heap.size w w1 := below_of_grown hb1 (Nat.le_refl _) (by simp)
      have row1 : RowI .u8 5 w1 w.heap.size (List.replicate R 0) := by
        unfold RowI; rw [List.map_replicate]; exact hw1
      have z1 : w.heap.size < w1.heap.size := row1.lt
      have ROW1 := Lib.hid row1
      clear hw1 hb1 row1 hi hz0 hz1 hz2 r0 r1
      go_loopw [8] (fun i wr => ∃ (k : Nat), k ≤ n ∧ i = .int .i64 (k : Nat) ∧ RowI .u8 5 wr w.heap.size (packTo zs d R k) ∧ w1.grownBy wr (some w.heap.size)) (fun i _ => n - (intOf i).toNat)
      case atStart => exact ⟨0, by omega, rfl, ROW1.out, World.grownBy.refl _ _⟩
      case round =>
        obtain ⟨k, hk, rfl, hrow, hgr⟩ := hrel
        by_cases hlt : k < n
        · obtain ⟨b1, o1, rfl, e1⟩ := h.cell k hlt
          obtain ⟨u0, u1⟩ := hu k (by rw [l1.out]; exact hlt)
          have hps : packTo zs d R (k + 1) = innerTo (packTo zs d R k) (k * d) (zs.getD k 0) d := rfl
          obtain ⟨x, hx⟩ : ∃ x, x = zs.getD k 0 := ⟨_, rfl⟩
          rw [← hx] at e1 u0 u1 hps
          have c3 : w1.cell? ⟨b1, o1 + k, none⟩ = some (.int .u64 x) := (B1.cell (p := ⟨b1, o1 + k, none⟩) (block_lt_of_cell e1)).trans e1
          have c4 : b1 ≠ w.heap.size := by have := block_lt_of_cell e1; simp at this; omega
          have hkd : k * d ≤ n * 64 := Nat.mul_le_mul (by omega) (by omega)
          have hkn : k * d + d ≤ n * d := by have := Nat.mul_le_mul_right d (show k + 1 ≤ n by omega); rw [Nat.succ_mul] at this; exact this
          have e8 : (k : Int) * (d : Int) = ((k * d : Nat) : Int) := by rw [Int.natCast_mul]
          have hlb := packTo_len zs d R k
          obtain ⟨bs0, hbs0⟩ : ∃ bs0, bs0 = packTo zs d R k := ⟨_, rfl⟩
          obtain ⟨p, hp⟩ : ∃ p : Nat, p = k * d := ⟨_, rfl⟩
          rw [← hp] at e8 hkd hkn hps
          rw [← hbs0] at hlb hps hrow
          have HPS := Lib.hid hps
          have HLB := Lib.hid hlb
          have hpR : p + d ≤ 8 * R := by have := HR.out; omega
          clear hp hx e1 hps hbs0 hkn hlb
          obtain ⟨wo, hwo⟩ : ∃ wo : World, wo = wr := ⟨_, rfl⟩
          rw [← hwo] at hrow hgr ⊢
          clear hwo
          have C3 := Lib.hid c3
          clear c3
          go_wp2_with fail
          go_loopw [9] (fun aa wr => ∃ (j : Nat) (bs : List Int), j ≤ d ∧ aa = .int .i64 (j : Nat) ∧ bs = innerTo bs0 p x j ∧ RowI .u8 5 wr w.heap.size bs ∧ w1.grownBy wr (some w.heap.size)) (fun aa _ => d - (intOf aa).toNat)
          case atStart => exact ⟨0, bs0, by omega, rfl, rfl, hrow, hgr⟩
          case round =>
            obtain ⟨j, bs, hj, rfl, hbs, hrow, hgr⟩ := hrel
            have HB := Lib.hid hbs
            clear hbs
            by_cases hjd : j < d
            · have hbl : bs.length = R := by rw [HB.out, innerTo_len]; exact HLB.out
              have hqR : (p + j) / 8 < R := by omega
              have hc := hrow.cell ((p + j) / 8) (by omega)
              have hf := hrow.frozen ((p + j) / 8)
              have c3 : wr.cell? ⟨b1, o1 + k, none⟩ = some (.int .u64 x) := hgr.cell C3.out (by simp; exact c4)
              have hst : innerTo bs0 p x (j + 1) = bs.set ((p + j) / 8) (bits .or .u8 (bs.getD ((p + j) / 8) 0) (bits .and .u64 (x / 2 ^ j) 1 % 256 * 2 ^ ((p + j) % 8) % 256)) := by
                rw [HB.out]; rfl
              obtain ⟨v, hv⟩ : ∃ v, v = bs.getD ((p + j) / 8) 0 := ⟨_, rfl⟩
              rw [← hv] at hc hst
              have HS := Lib.hid hst
              clear hv hbl hst
              go_wp2_with fail
              go_region
              go_wp2
              go_roundw
              case rel => exact ⟨j + 1, _, by omega, by go_num, HS.out.symm, hrow.set _ _, grownBy_drewN (grownBy_setCell hgr _ _) 1⟩
              case measure => simp [intOf]; omega
            · have hje : j = d := by omega
              have hst : bs = packTo zs d R (k + 1) := by rw [HPS.out, ← hje]; exact HB.out
              have HS := Lib.hid hst
              clear hst hje
              go_wp2
              go_roundw
              case rel => exact ⟨k + 1, by omega, by go_num, by rw [← HS.out]; exact hrow, hgr⟩
              case measure => simp [intOf]; omega
        · obtain rfl : n = k := by omega
          go_wp2
          go_ret2
          exact ⟨fun h' => (by rw [HA.out] at h'; cases h'), fun _ => ⟨d, R, w.heap.size, rfl, HR.out, rfl, Nat.le_refl _, hrow, B1.trans (below_of_grown hgr (by omega) (by simp))⟩⟩
end Go.Proofs.Ytjgcmnppiaikcaa
