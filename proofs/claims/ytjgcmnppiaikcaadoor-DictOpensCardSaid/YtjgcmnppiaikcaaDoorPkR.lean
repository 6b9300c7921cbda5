/- The document's Open of any bytes: the numbers one by one. -/
import Derived.Test.YtjgcmnppiaikcaaDoorPkQ
import Derived.Test.YtjgcmnppiaikcaaDoorPkL
set_option linter.unusedVariables false
set_option linter.unusedSimpArgs false
namespace Go.Proofs.YtjgcmnppiaikcaaDoor
open Go.RowKit Go.Tk
/-- The numbers as far as they are made: those ahead of i whole, of number i so many bits. -/
def fillT (zs : List Int) (d m i k : Nat) : List Int := (List.range m).map fun x => if x < i then ((numT zs d x d : Nat) : Int) else if x = i then ((numT zs d i k : Nat) : Int) else 0
theorem fill_len (zs : List Int) (d m i k : Nat) : (fillT zs d m i k).length = m := by simp [fillT]
theorem fill_zero (zs : List Int) (d m : Nat) : fillT zs d m 0 0 = List.replicate m 0 := by
  refine List.ext_getElem (by simp [fillT]) fun j h1 h2 => ?_
  simp only [fillT, List.getElem_map, List.getElem_range, List.getElem_replicate]
  rw [if_neg (by omega)]
  split <;> simp [numT]
theorem fill_get {zs : List Int} {d m i k : Nat} (hi : i < m) : (fillT zs d m i k).getD i 0 = (numT zs d i k : Nat) := by
  simp [fillT, hi]
theorem fill_set {zs : List Int} {d m i k : Nat} (hi : i < m) : (fillT zs d m i k).set i ((numT zs d i (k + 1) : Nat) : Int) = fillT zs d m i (k + 1) := by
  refine List.ext_getElem (by simp [fillT]) fun j h1 h2 => ?_
  simp only [fillT, List.getElem_set, List.getElem_map, List.getElem_range]
  by_cases h : i = j
  · subst h; simp
  · rw [if_neg h, if_neg (show ¬ j = i by omega), if_neg (show ¬ j = i by omega)]
theorem fill_next {zs : List Int} {d m i : Nat} : fillT zs d m i d = fillT zs d m (i + 1) 0 := by
  refine List.ext_getElem (by simp [fillT]) fun j h1 h2 => ?_
  simp only [fillT, List.getElem_map, List.getElem_range]
  by_cases h : j < i
  · rw [if_pos h, if_pos (show j < i + 1 by omega)]
  · by_cases h' : j = i
    · subst h'; simp
    · rw [if_neg h, if_neg h', if_neg (show ¬ j < i + 1 by omega)]
      split <;> simp [numT]
theorem fill_all {zs : List Int} {d m k : Nat} (x : Nat) (hx : x < m) : (fillT zs d m m k).getD x 0 = (numT zs d x d : Nat) := by
  simp [fillT, hx]
/-- What the document's Open hands back. -/
def ROpen (w : World) (zs : List Int) (n wd : Int) (e : Ending) (w' : World) : Prop :=
  ∃ v, e = .returned (.tuple #[v, .int .i64 (opErr zs n wd)]) ∧ Below w.heap.size w w' ∧
    (opErr zs n wd = 0 → wd ≠ 0 → ∃ g, v = .slice (some ⟨g, 0, none⟩) n.toNat n.toNat ∧ w.heap.size ≤ g ∧ RowI .u64 59 w' g (fillT zs wd.toNat n.toNat n.toNat 0)) ∧
    (opErr zs n wd ≠ 0 ∨ wd = 0 → v = .slice none 0 0)
theorem ropen_none {w : World} {zs : List Int} {n wd : Int} {k : Int} (he : opErr zs n wd = k) (hk : k ≠ 0 ∨ wd = 0) {w' : World} (hb : Below w.heap.size w w') : ROpen w zs n wd (.returned (.tuple #[.slice none 0 0, .int .i64 k])) w' :=
  ⟨_, by rw [he], hb, fun h hw => by rcases hk with hk | hk; exact absurd (he.symm.trans h) hk; exact absurd hk hw, fun _ => rfl⟩
set_option maxRecDepth 100000 in
set_option maxHeartbeats 4000000 in
theorem ropen_calls (w : World) (a : Option Addr) (L c : Nat) (zs : List Int) (h : SlI .u8 w a L c zs) (hu : U8 zs) (n wd : Int) :
    Calls Tryd.prog 20 #[.slice a L c, .int .i64 n, .int .i64 wd] w (ROpen w zs n wd) := by
  by_cases hw0 : wd < 0
  · have he : opErr zs n wd = 14 := by unfold opErr; rw [if_pos (.inl (by omega))]
    have HE := Lib.hid he
    clear he
    go_enter Tryd.func20, Tryd.ntmps20
    go_wp2
    go_ret2
    exact ropen_none HE.out (.inl (by omega)) (Below.refl _ _)
  by_cases hw1 : 64 < wd
  · have he : opErr zs n wd = 14 := by unfold opErr; rw [if_pos (.inl (by omega))]
    have HE := Lib.hid he
    clear he
    go_enter Tryd.func20, Tryd.ntmps20
    go_wp2
    go_ret2
    exact ropen_none HE.out (.inl (by omega)) (Below.refl _ _)
  by_cases hn0 : n < 0
  · have he : opErr zs n wd = 14 := by unfold opErr; rw [if_pos (.inr (.inl hn0))]
    have HE := Lib.hid he
    clear he
    go_enter Tryd.func20, Tryd.ntmps20
    go_wp2
    go_ret2
    exact ropen_none HE.out (.inl (by omega)) (Below.refl _ _)
  by_cases hn1 : 2147483647 < n
  · have he : opErr zs n wd = 14 := by unfold opErr; rw [if_pos (.inr (.inr hn1))]
    have HE := Lib.hid he
    clear he
    go_enter Tryd.func20, Tryd.ntmps20
    go_wp2
    go_ret2
    exact ropen_none HE.out (.inl (by omega)) (Below.refl _ _)
  obtain ⟨m, rfl⟩ := Int.eq_ofNat_of_zero_le (show 0 ≤ n by omega)
  obtain ⟨d, rfl⟩ := Int.eq_ofNat_of_zero_le (show 0 ≤ wd by omega)
  have hno : ¬ (¬ (0 ≤ (d : Int) ∧ (d : Int) ≤ 64) ∨ (m : Int) < 0 ∨ 2147483647 < (m : Int)) := by omega
  have hd : d ≤ 64 := by omega
  have hm : m ≤ 2147483647 := by omega
  have hmd : m * d ≤ m * 64 := Nat.mul_le_mul_left m hd
  obtain ⟨M, hM⟩ : ∃ M, M = m * d := ⟨_, rfl⟩
  have hMi : (m : Int) * (d : Int) = (M : Int) := by rw [hM, Int.natCast_mul]
  obtain ⟨R, hR⟩ : ∃ R : Nat, R = (M + 7) / 8 := ⟨_, rfl⟩
  have hR' : ((M : Int) + 7) / 8 = (R : Int) := by omega
  have hll := h.len
  have hlc := h.le
  have hmx := h.max
  have hRb : R ≤ 17179869177 := by omega
  have hMb : M ≤ 137438953408 := by omega
  have heq : opErr zs (m : Int) (d : Int) = (if L < R then 10 else if R < L then 13 else if 0 < M % 8 ∧ zs.getD (L - 1) 0 / 2 ^ (M % 8) ≠ 0 then 12 else 0) := by
    obtain ⟨v, hv⟩ : ∃ v : Nat, v = M % 8 := ⟨_, rfl⟩
    have hv' : (M : Int) % 8 = (v : Int) := by omega
    rw [← hv]
    unfold opErr
    rw [if_neg hno, hMi, hR', hv', hll, Int.toNat_natCast]
    by_cases h1 : L < R
    · rw [if_pos h1, if_pos (by omega)]
    · rw [if_neg h1, if_neg (by omega)]
      by_cases h2 : R < L
      · rw [if_pos h2, if_pos (by omega)]
      · rw [if_neg h2, if_neg (by omega)]
        by_cases h3 : 0 < v ∧ zs.getD (L - 1) 0 / 2 ^ v ≠ 0
        · rw [if_pos h3, if_pos ⟨by omega, h3.2⟩]
        · rw [if_neg h3, if_neg (fun h => h3 ⟨by omega, h.2⟩)]
  have HMI := Lib.hid hMi
  have HR' := Lib.hid hR'
  have HEQ := Lib.hid heq
  have HLL := Lib.hid hll
  have HRR := Lib.hid hR
  have HM := Lib.hid hM
  have HS := Lib.hid h
  have HU := Lib.hid hu
  clear heq hR hR' hll hno h hu hM
  have hr0 : (0 : Int) ≤ (m : Int) * (d : Int) := by rw [hMi]; omega
  have hr1 : (m : Int) * (d : Int) ≤ 4611686018427387904 := by rw [hMi]; omega
  have HR0 := Lib.hid hr0
  have HR1 := Lib.hid hr1
  clear hr0 hr1
  by_cases h1 : L < R
  · have he : opErr zs (m : Int) (d : Int) = 10 := by rw [HEQ.out, if_pos h1]
    have HE := Lib.hid he
    clear he
    go_enter Tryd.func20, Tryd.ntmps20
    go_wp2_with (go_at_call 36; refine (rroom_calls _ _ _ HR0.out HR1.out).mono ?_; rintro e w' ⟨rfl, rfl⟩; rw [HMI.out, HR'.out])
    go_ret2
    exact ropen_none HE.out (.inl (by omega)) (Below.refl _ _)
  by_cases h2 : R < L
  · have he : opErr zs (m : Int) (d : Int) = 13 := by rw [HEQ.out, if_neg h1, if_pos h2]
    have HE := Lib.hid he
    clear he
    go_enter Tryd.func20, Tryd.ntmps20
    go_wp2_with (go_at_call 36; refine (rroom_calls _ _ _ HR0.out HR1.out).mono ?_; rintro e w' ⟨rfl, rfl⟩; rw [HMI.out, HR'.out])
    go_ret2
    exact ropen_none HE.out (.inl (by omega)) (Below.refl _ _)
  obtain rfl : R = L := by omega
  have hpad := pad_iff HU.out (m := M) (by rw [HLL.out]; exact HRR.out)
  rw [HLL.out] at hpad
  have HPAD := Lib.hid hpad
  clear hpad
  go_enter Tryd.func20, Tryd.ntmps20
  go_wp2_with (go_at_call 36; refine (rroom_calls _ _ _ HR0.out HR1.out).mono ?_; rintro e w' ⟨rfl, rfl⟩; rw [HMI.out, HR'.out])
  have hMR : M ≤ 8 * R := by have := HRR.out; omega
  go_loopw [8] (fun av wr => ∃ t : Nat, av = .int .i64 (t : Nat) ∧ M ≤ t ∧ t ≤ 8 * R ∧ (∀ q, M ≤ q → q < t → bitI zs q = false) ∧ wr = w) (fun av _ => 8 * R - (intOf av).toNat)
  case atStart => exact ⟨M, rfl, Nat.le_refl _, hMR, (fun q h1 h2 => by omega), rfl⟩
  case round =>
    obtain ⟨t, rfl, ht0, ht1, hbits, rfl⟩ := hrel
    have HBITS := Lib.hid hbits
    clear hbits
    by_cases hlt : t < 8 * R
    · obtain ⟨q, hq⟩ : ∃ q, q = t / 8 := ⟨_, rfl⟩
      obtain ⟨r, hr⟩ : ∃ r, r = t % 8 := ⟨_, rfl⟩
      obtain ⟨b, o, rfl, hc⟩ := HS.out.cell q (by omega)
      have hub := HU.out q (by rw [HLL.out]; omega)
      obtain ⟨y, hy⟩ : ∃ y : Nat, zs.getD q 0 = y := ⟨(zs.getD q 0).toNat, by omega⟩
      rw [hy] at hc hub
      have hy2 : y < 256 := by omega
      have HY := Lib.hid hy
      have p1 : (t : Int) / 8 = (q : Int) := by omega
      have p2 : (t : Int) % 8 = (r : Int) := by omega
      have p3 : q < R := by omega
      have p4 : r < 8 := by omega
      have HQ := Lib.hid hq
      have HR := Lib.hid hr
      clear hy hq hr
      have hbit : bitI zs t = y.testBit r := by
        unfold bitI
        rw [← HQ.out, ← HR.out, HY.out, Int.toNat_natCast]
      have hval := bit_val ⟨y, hy2⟩ ⟨r, p4⟩
      simp only at hval
      cases hb : y.testBit r with
      | true =>
        rw [hb, if_pos rfl] at hval
        rw [hb] at hbit
        have he : opErr zs (m : Int) (d : Int) = 12 := by
          rw [HEQ.out, if_neg h1, if_neg h2, if_pos]
          by_cases hcond : 0 < M % 8 ∧ zs.getD (R - 1) 0 / 2 ^ (M % 8) ≠ 0
          · exact hcond
          · have := HPAD.out.1 hcond t ht0
            rw [hbit] at this; cases this
        have HE := Lib.hid he
        clear hb hbit he
        go_wp2
        go_ret2
        exact ropen_none HE.out (.inl (by omega)) (Below.refl _ _)
      | false =>
        rw [hb, if_neg (by simp)] at hval
        rw [hb] at hbit
        have HB := Lib.hid hbit
        clear hb hbit
        go_wp2
        go_roundw
        case rel => exact ⟨t + 1, by go_num, by omega, by omega, (fun q h1 h2 => by
          by_cases hqt : q = t
          · subst hqt; exact HB.out
          · exact HBITS.out q h1 (by omega)), trivial⟩
        case measure => simp [intOf]; omega
    · obtain rfl : t = 8 * R := by omega
      have he : opErr zs (m : Int) (d : Int) = 0 := by
        rw [HEQ.out, if_neg h1, if_neg h2, if_neg]
        refine HPAD.out.2 fun q hq => ?_
        by_cases hq2 : q < 8 * R
        · exact HBITS.out q hq hq2
        · exact bitI_out (by rw [HLL.out]; omega)
      have HE := Lib.hid he
      clear he
      by_cases hd0 : d = 0
      · have ed : ((d : Int) == 0) = true := by simp [hd0]
        have HD0 := Lib.hid hd0
        clear hd0
        go_wp2
        go_ret2
        exact ropen_none HE.out (.inr (by rw [HD0.out]; rfl)) (Below.refl _ _)
      · have ed : ((d : Int) == 0) = false := by simp; omega
        go_wp2_with (at_make; refine wpList_mkJ rfl _ _ 55 rfl 59 (.int .u64 0) 8 Tryd.underlying55 Tryd.infoU64 rfl _ _ _ _ m rfl rfl rfl rfl (by omega) (by omega) ?_; intro w1 hw1 hb1)
        have row1 : RowI .u64 59 w1 wr.heap.size (fillT zs d m 0 0) := by
          rw [fill_zero]; unfold RowI; rw [List.map_replicate]; exact hw1
        have B1 : Below wr.heap.size wr w1 := below_of_grown hb1 (Nat.le_refl _) (by simp)
        have ROW1 := Lib.hid row1
        have HB1 := Lib.hid B1
        have hz1 : wr.heap.size < w1.heap.size := row1.lt
        clear hw1 hb1 row1 B1
        generalize wr = w0 at *
        go_loopw [10] (fun iv wr => ∃ i : Nat, iv = .int .i64 (i : Nat) ∧ i ≤ m ∧ RowI .u64 59 wr w0.heap.size (fillT zs d m i 0) ∧ w1.grownBy wr (some w0.heap.size)) (fun iv _ => m - (intOf iv).toNat)
        case atStart => exact ⟨0, rfl, Nat.zero_le _, ROW1.out, World.grownBy.refl _ _⟩
        case round =>
          obtain ⟨i, rfl, hi, hrow, hgr⟩ := hrel
          by_cases hlt : i < m
          · obtain ⟨P, hP⟩ : ∃ P, P = i * d := ⟨_, rfl⟩
            have hPi : (i : Int) * (d : Int) = (P : Int) := by rw [hP, Int.natCast_mul]
            have hid : P + d ≤ M := by
              rw [hP, HM.out]
              have : (i + 1) * d ≤ m * d := Nat.mul_le_mul_right d (by omega)
              rw [Nat.add_mul, Nat.one_mul] at this
              exact this
            have HP := Lib.hid hP
            clear hP
            generalize wr = wo at hrow hgr ⊢
            have hbo : Below w0.heap.size w0 wo := HB1.out.trans (below_of_grown hgr (by omega) (by simp))
            go_wp2_with fail
            go_loopw [11, 12] (fun kv av wr => ∃ k : Nat, kv = .int .i64 (k : Nat) ∧ k ≤ d ∧ RowI .u64 59 wr w0.heap.size (fillT zs d m i k) ∧ w1.grownBy wr (some w0.heap.size)) (fun kv _ _ => d - (intOf kv).toNat)
            case atStart => exact ⟨0, rfl, Nat.zero_le _, hrow, hgr⟩
            case round =>
              obtain ⟨k, rfl, hk, hrow, hgr⟩ := hrel
              by_cases hkd : k < d
              · obtain ⟨q, hq⟩ : ∃ q, q = (P + k) / 8 := ⟨_, rfl⟩
                obtain ⟨r, hr⟩ : ∃ r, r = (P + k) % 8 := ⟨_, rfl⟩
                have hbw : Below w0.heap.size w0 wr := HB1.out.trans (below_of_grown hgr (by omega) (by simp))
                obtain ⟨b, o, rfl, hc⟩ := (HS.out.keep hbw).cell q (by omega)
                have hub := HU.out q (by rw [HLL.out]; omega)
                obtain ⟨y, hy⟩ : ∃ y : Nat, zs.getD q 0 = y := ⟨(zs.getD q 0).toNat, by omega⟩
                rw [hy] at hc hub
                have hy2 : y < 256 := by omega
                have HY := Lib.hid hy
                have p1 : ((P : Int) + (k : Int)) / 8 = (q : Int) := by omega
                have p2 : ((P : Int) + (k : Int)) % 8 = (r : Int) := by omega
                have p3 : q < R := by omega
                have p4 : r < 8 := by omega
                have HQ := Lib.hid hq
                have HR := Lib.hid hr
                have hbit : bitI zs (i * d + k) = y.testBit r := by
                  unfold bitI
                  rw [← HP.out, ← HQ.out, ← HR.out, HY.out, Int.toNat_natCast]
                have hN : numT zs d i k < 18446744073709551616 := by
                  have h1 := numT_lt zs d i k
                  have h2 : (2 : Nat) ^ k ≤ 2 ^ 64 := Nat.pow_le_pow_right (by omega) (by omega)
                  omega
                have hst := step_val (numT zs d i k) y r k hN hy2 p4 (by omega)
                have hc0 := hrow.cell i (by rw [fill_len]; exact hlt)
                have hf0 := hrow.frozen i
                rw [fill_get hlt] at hc0
                have hset := fill_set (zs := zs) (d := d) (k := k) hlt
                simp only [numT, hbit] at hset
                obtain ⟨N0, hN0⟩ : ∃ N0, N0 = numT zs d i k := ⟨_, rfl⟩
                rw [← hN0] at hst hc0 hset hN
                have HST := Lib.hid hst
                have HSET := Lib.hid hset
                have HROW := Lib.hid hrow
                have HGR := Lib.hid hgr
                clear hst hbit hN0 hset hrow hgr hy hq hr hbo hbw
                go_wp2_with fail
                go_region
                go_wp2
                go_roundw
                case rel =>
                  refine ⟨k + 1, by go_num, by omega, ?_, grownBy_drewN (grownBy_setCell HGR.out _ _) 1⟩
                  rw [HST.out, ← HSET.out]
                  exact HROW.out.set _ _
                case measure => simp [intOf]; omega
              · obtain rfl : k = d := by omega
                rw [fill_next] at hrow
                go_wp2
                go_roundw
                case rel => exact ⟨i + 1, by go_num, by omega, hrow, hgr⟩
                case measure => simp [intOf]; omega
          · obtain rfl : i = m := by omega
            go_wp2
            go_ret2
            refine ⟨.slice (some ⟨w0.heap.size, 0, none⟩) i i, (by rw [HE.out]; rfl), HB1.out.trans (below_of_grown hgr (by omega) (by simp)), fun _ _ => ⟨_, rfl, Nat.le_refl _, ?_⟩, fun h => ?_⟩
            · simpa using hrow
            · rcases h with h | h
              · exact absurd HE.out h
              · exact absurd h (by omega)
end Go.Proofs.YtjgcmnppiaikcaaDoor
