/- directory: tells the numbers of the directories, each as it must be, and all of them. -/
import Derived.Test.YtgajpekolamjbaaRkD
import Derived.Deep.CutBlock
set_option linter.unusedVariables false
set_option linter.unusedSimpArgs false
namespace Go.Proofs.Ytgajpekolamjbaa
open Go.RowKit Go.Tk
set_option maxRecDepth 100000 in
set_option maxHeartbeats 2000000 in
theorem directory_calls (F : FuncId) (x1 x2 : Value) (hcf : ∀ (p q r : Int) (w : World), (callFunc F #[.int .i64 p, .int .i64 q, .int .i64 r, x1, x2]).run Try.prog w = .ok (.enter F #[.int .i64 p, .int .i64 q, .int .i64 r, x1, x2]) w) (w : World) (a : Option Addr) (n c : Nat) (d : List UInt8) (N : Nat) (hn : n = d.length) (hl : d.length = (N + 7) / 8) (hp : padB d N = true) (hN : N ≤ 67108864)
    (I : World → List (Nat × Nat × Nat) → Prop) (hI0 : I w []) (hsl : ∀ w' L, I w' L → SlI .u8 w' a n c (nums d))
    (hT : ∀ w' L part i v, I w' L → Vt d N (part, i, v) → Calls Try.prog F #[.int .i64 (part : Nat), .int .i64 (i : Nat), .int .i64 (v : Nat), x1, x2] w' fun e w'' => e = .returned (.bool true) ∧ I w'' (L ++ [(part, i, v)])) :
    Calls Try.prog 84 #[.slice a n c, .int .i64 (N : Nat), .func (.func F) #[] #[x1, x2]] w fun e w' => e = .returned (.bool true) ∧ ∃ L, I w' L ∧ ∀ t, Vt d N t → t ∈ L := by
  have HSL := Lib.hid hsl
  have HT := Lib.hid hT
  have HI0 := Lib.hid hI0
  have HL := Lib.hid hl
  have HP := Lib.hid hp
  have HNN := Lib.hid hn
  clear hsl hT hI0 hl hp hn
  go_enter Try.func84, Try.ntmps84
  go_wp2
  go_loopw [7, 8, 9] (fun ov av tv wr => ∃ (q A m ah : Nat) (L : List (Nat × Nat × Nat)), tv = .int .i64 (A : Nat) ∧ A = 8 * q ∧ q ≤ n ∧ ov = .int .i64 (m : Nat) ∧ m = cntB d A ∧ av = .int .i64 (ah : Nat) ∧ (¬ A % 2048 = 0 → ah = cntB d (A / 2048 * 2048)) ∧ I wr L ∧ CovG d N L A ∧ CovS d N L A ∧ CovM d N L (cntB d A)) (fun _ _ tv _ => N + 8 - (intOf tv).toNat)
  case atStart => exact ⟨0, 0, 0, 0, [], rfl, rfl, Nat.zero_le _, rfl, rfl, rfl, fun h => absurd rfl h, HI0.out, fun j v h => by omega, fun j v h => by omega, fun j v h => by simp [cntB] at h⟩
  case round =>
    obtain ⟨q, A, m, ah, L, rfl, hA, hq, rfl, hm, rfl, hah, hI, hG, hS, hM⟩ := hrel
    by_cases hAN : A < N
    · have hqn : q < n := by have := HL.out; have := HNN.out; omega
      have hml : m ≤ A := by rw [hm]; exact cnt_le d A
      have hI' := Lib.hid hI
      have HG := Lib.hid hG
      have HS := Lib.hid hS
      have HM := Lib.hid hM
      have HA := Lib.hid hA
      have HMM := Lib.hid hm
      have HAH := Lib.hid hah
      clear hI hG hS hM hA hm hah
      by_cases g0 : A % 2048 = 0
      · have s0 : A % 256 = 0 := by omega
        have e1 : ((A : Int) % 2048 == 0) = true := by simp; omega
        have e2 : ((A : Int) % 256 == 0) = true := by simp; omega
        have vg : (grL d N)[A / 2048]? = some m := by rw [gr_get d _ _ (by omega), HMM.out, show A / 2048 * 2048 = A by omega]
        have vs : (smL d N)[A / 256]? = some 0 := by rw [sm_get d _ _ (by omega), show A / 256 * 256 = A by omega, show A / 256 / 8 * 2048 = A by omega, Nat.sub_self]
        have h1 := HT.out wr L 2048 (A / 2048) m hI'.out (.inl ⟨rfl, vg⟩)
        have h2 := fun w1 h => HT.out w1 (L ++ [(2048, A / 2048, m)]) 256 (A / 256) 0 h (.inr (.inl ⟨rfl, vs⟩))
        rw [Int.natCast_ediv, show ((2048 : Nat) : Int) = 2048 from rfl] at h1
        simp only [Int.natCast_ediv, show ((256 : Nat) : Int) = 256 from rfl, show ((0 : Nat) : Int) = 0 from rfl] at h2
        have hG2 := HG.out.step g0 vg
        have hG3 := hG2.app (256, A / 256, 0)
        have hS3 := (HS.out.app (2048, A / 2048, m)).step s0 vs
        have hM3 := (HM.out.app (2048, A / 2048, m)).app (256, A / 256, 0)
        have H1 := Lib.hid h1
        have H2 := Lib.hid h2
        have HG3 := Lib.hid hG3
        have HS3 := Lib.hid hS3
        have HM3 := Lib.hid hM3
        have G0 := Lib.hid g0
        clear h1 h2 vg vs g0 s0 hG2 hG3 hS3 hM3
        go_upto_region 11 with (first
          | ((with_reducible refine H1.out.mono ?_); rintro e w1 ⟨rfl, hi1⟩; (have HI1 := Lib.hid hi1); clear hi1)
          | ((with_reducible refine (H2.out _ HI1.out).mono ?_); rintro e w2 ⟨rfl, hi2⟩; (have HI2 := Lib.hid hi2); clear hi2))
        have HI3 := HI2
        clear e1 e2 H1 H2 HI1 HI2
        have hsc := HSL.out w2 (L ++ [(2048, A / 2048, m)] ++ [(256, A / 256, 0)]) HI3.out
        have hA8 : A / 8 = q := by have := HA.out; omega
        obtain ⟨b, o, rfl, hc⟩ := hsc.cell (A / 8) (by omega)
        have hlq : q < d.length := by have := HNN.out; omega
        obtain ⟨y, hy⟩ : ∃ y : Nat, y = (d.getD q 0).toNat := ⟨_, rfl⟩
        have hyv : (nums d).getD (A / 8) 0 = (y : Int) := by rw [hA8, nums_getD d q hlq, hy, List.getD_eq_getElem?_getD, List.getElem?_eq_getElem hlq]; rfl
        rw [hyv] at hc
        have hy255 : y ≤ 255 := by rw [hy]; have := UInt8.toNat_lt (d.getD q 0); omega
        have hbt : ∀ j, j < 8 → btB d (A + j) = y.testBit j := fun j hj => by rw [hy, HA.out]; exact bt_at d q j hj
        have HBT := Lib.hid hbt
        have hA8n : A / 8 < n := by omega
        clear hsc hy hyv hbt hA8
        go_wp2_with fail
        go_loopw [7, 10] (fun ov xv wr => ∃ (v m' X : Nat) (L' : List (Nat × Nat × Nat)), v ≤ 8 ∧ xv = .int .u8 (X : Nat) ∧ X = clrB y v ∧ ov = .int .i64 (m' : Nat) ∧ m' = cntB d (A + v) ∧ I wr L' ∧ CovG d N L' (A + 8) ∧ CovS d N L' (A + 8) ∧ CovM d N L' m') (fun _ xv _ => (intOf xv).toNat)
        case atStart => exact ⟨0, m, y, _, by omega, rfl, by simp [clrB], rfl, HMM.out, HI3.out, HG3.out, HS3.out, cov_at HMM.out HM3.out⟩
        case round =>
          obtain ⟨v, m', X, L', hv8, rfl, hX, rfl, hm', hi', hg', hs', hmm'⟩ := hrel
          unfold clrB at hX
          have hml' : m' ≤ A + v := by rw [hm']; exact cnt_le d _
          have HG4 := Lib.hid hg'
          have HS4 := Lib.hid hs'
          have HM4 := Lib.hid hmm'
          have HI4 := Lib.hid hi'
          clear HG3 HS3 HM3 HI3 hg' hs' hmm' hi'
          by_cases hx : X = 0
          · have hend := byte_end ⟨y, by omega⟩ ⟨v, by omega⟩ (by rw [hX] at hx; exact hx)
            have hce : cntB d (A + 8) = m' := by
              have := cnt_zero d (A + v) (8 - v) (fun j hj => by rw [Nat.add_assoc, HBT.out (v + j) (by omega)]; exact hend ⟨v + j, by omega⟩ (by simp))
              rw [show A + v + (8 - v) = A + 8 by omega] at this
              rw [this, hm']
            have HCE := Lib.hid hce
            clear hend hce hm' hX
            subst hx
            go_wp2_with fail
            go_roundw
            case rel => exact ⟨q + 1, A + 8, m', m, L', by go_num, by have := HA.out; omega, by omega, rfl, HCE.out.symm, rfl, fun h => by rw [HMM.out, show (A + 8) / 2048 * 2048 = A by have := G0.out; omega], HI4.out, HG4.out, HS4.out, by rw [HCE.out]; exact HM4.out⟩
            case measure => simp [intOf]; omega
          · obtain ⟨t, ht⟩ : ∃ t, t = Lib.trailingZeros8 X := ⟨_, rfl⟩
            obtain ⟨b1, b2, b3, b4, b5⟩ := byte_step ⟨y, by omega⟩ ⟨v, by omega⟩ (by rw [hX] at hx; exact hx)
            simp only [← hX, ← ht] at b1 b2 b3 b4 b5
            have hX255 : X ≤ 255 := by rw [hX]; exact Nat.le_trans (Nat.div_mul_le_self _ _) hy255
            have hand := and_pred ⟨X, by omega⟩ hx
            simp only [b5] at hand
            have hlt2 : y / 2 ^ (t + 1) * 2 ^ (t + 1) < X := by rw [← b5]; exact Nat.lt_of_le_of_lt Nat.and_le_right (by omega)
            obtain ⟨X2, hX2⟩ : ∃ X2, X2 = y / 2 ^ (t + 1) * 2 ^ (t + 1) := ⟨_, rfl⟩
            rw [← hX2] at hand hlt2
            have hct : cntB d (A + t) = m' := by
              have := cnt_zero d (A + v) (t - v) (fun j hj => by rw [Nat.add_assoc, HBT.out (v + j) (by omega)]; exact b4 ⟨v + j, by omega⟩ (by simp) (by simp only; omega))
              rw [show A + v + (t - v) = A + t by omega] at this
              rw [this, hm']
            have hbit : btB d (A + t) = true := by rw [HBT.out t b2]; exact b3
            have hct1 : cntB d (A + (t + 1)) = m' + 1 := by rw [← Nat.add_assoc]; simp only [cntB]; rw [if_pos hbit, hct]
            have hAt : A + t < N := by
              by_cases h : N ≤ A + t
              · rw [pad_bits HL.out HP.out (A + t) h] at hbit; exact absurd hbit (by decide)
              · omega
            have htz := fun w => Try.bits_TrailingZeros8 (X : Int) w (by omega) (by omega)
            rw [Int.toNat_natCast, ← ht] at htz
            have HTZ := Lib.hid htz
            have HC1 := Lib.hid hct1
            have HX2 := Lib.hid hX2
            have hmN : m' ≤ 67108864 := by omega
            have ht8 : t + 1 ≤ 8 := by omega
            clear hm' hX ht b1 b2 b3 b4 b5 htz hct1 hX2
            have hxI : ¬ (X : Int) = 0 := by omega
            by_cases m0 : m' % 512 = 0
            · have e3 : ((m' : Int) % 512 == 0) = true := by simp; omega
              have vm : (mkL d N)[m' / 512]? = some (A + t) := by
                have := mk_get d N (A + t) hAt hbit (by rw [hct]; exact m0)
                rw [hct] at this; exact this
              have h5 := fun w1 h => HT.out w1 L' 512 (m' / 512) (A + t) h (.inr (.inr ⟨rfl, vm⟩))
              simp only [Int.natCast_ediv, Int.natCast_add, show ((512 : Nat) : Int) = 512 from rfl] at h5
              have hG5 := HG4.out.app (512, m' / 512, A + t)
              have hS5 := HS4.out.app (512, m' / 512, A + t)
              have hM5 := HM4.out.step m0 vm
              have H5 := Lib.hid h5
              have HG5 := Lib.hid hG5
              have HS5 := Lib.hid hS5
              have HM5 := Lib.hid hM5
              clear h5 vm hG5 hS5 hM5 hct hbit m0
              go_wp2_with (first
                | (go_at_call 110; refine (HTZ.out _).mono ?_; rintro e w5 ⟨rfl, rfl⟩)
                | ((with_reducible refine (H5.out _ HI4.out).mono ?_); rintro e w6 ⟨rfl, hi6⟩; (have HI6 := Lib.hid hi6); clear hi6))
              go_roundw
              case rel => exact ⟨t + 1, m' + 1, X2, _, ht8, rfl, HX2.out, by go_num, HC1.out.symm, HI6.out, HG5.out, HS5.out, HM5.out⟩
              case measure => simp [intOf]; omega
            · have e3 : ((m' : Int) % 512 == 0) = false := by simp; omega
              have hM5 := HM4.out.skip m0
              have HM5 := Lib.hid hM5
              clear hM5 hct hbit m0
              go_wp2_with fail
              go_roundw
              case rel => exact ⟨t + 1, m' + 1, X2, _, ht8, rfl, HX2.out, by go_num, HC1.out.symm, HI4.out, HG4.out, HS4.out, HM5.out⟩
              case measure => simp [intOf]; omega
      · have e1 : ((A : Int) % 2048 == 0) = false := by simp; omega
        have ha := HAH.out g0
        have G0 := Lib.hid g0
        by_cases s0 : A % 256 = 0
        · have e2 : ((A : Int) % 256 == 0) = true := by simp; omega
          have vs : (smL d N)[A / 256]? = some (m - ah) := by rw [sm_get d _ _ (by omega), show A / 256 * 256 = A by omega, show A / 256 / 8 * 2048 = A / 2048 * 2048 by omega, HMM.out, ha]
          have hle : ah ≤ m := by rw [HMM.out, ha]; exact cnt_mono d (by omega)
          have h2 := HT.out wr L 256 (A / 256) (m - ah) hI'.out (.inr (.inl ⟨rfl, vs⟩))
          rw [Int.natCast_ediv, Int.natCast_sub hle, show ((256 : Nat) : Int) = 256 from rfl] at h2
          have hG3 := (HG.out.skip (by have := HA.out; omega) g0).app (256, A / 256, m - ah)
          have hS3 := HS.out.step s0 vs
          have hM3 := HM.out.app (256, A / 256, m - ah)
          have H2 := Lib.hid h2
          have HG3 := Lib.hid hG3
          have HS3 := Lib.hid hS3
          have HM3 := Lib.hid hM3
          clear h2 vs g0 s0 hG3 hS3 hM3 ha
          go_upto_region 11 with ((with_reducible refine H2.out.mono ?_); rintro e w2 ⟨rfl, hi2⟩; (have HI3 := Lib.hid hi2); clear hi2)
          clear e1 e2 H2 hle
          have hsc := HSL.out w2 (L ++ [(256, A / 256, m - ah)]) HI3.out
          have hA8 : A / 8 = q := by have := HA.out; omega
          obtain ⟨b, o, rfl, hc⟩ := hsc.cell (A / 8) (by omega)
          have hlq : q < d.length := by have := HNN.out; omega
          obtain ⟨y, hy⟩ : ∃ y : Nat, y = (d.getD q 0).toNat := ⟨_, rfl⟩
          have hyv : (nums d).getD (A / 8) 0 = (y : Int) := by rw [hA8, nums_getD d q hlq, hy, List.getD_eq_getElem?_getD, List.getElem?_eq_getElem hlq]; rfl
          rw [hyv] at hc
          have hy255 : y ≤ 255 := by rw [hy]; have := UInt8.toNat_lt (d.getD q 0); omega
          have hbt : ∀ j, j < 8 → btB d (A + j) = y.testBit j := fun j hj => by rw [hy, HA.out]; exact bt_at d q j hj
          have HBT := Lib.hid hbt
          have hA8n : A / 8 < n := by omega
          clear hsc hy hyv hbt hA8
          go_wp2_with fail
          go_loopw [7, 10] (fun ov xv wr => ∃ (v m' X : Nat) (L' : List (Nat × Nat × Nat)), v ≤ 8 ∧ xv = .int .u8 (X : Nat) ∧ X = clrB y v ∧ ov = .int .i64 (m' : Nat) ∧ m' = cntB d (A + v) ∧ I wr L' ∧ CovG d N L' (A + 8) ∧ CovS d N L' (A + 8) ∧ CovM d N L' m') (fun _ xv _ => (intOf xv).toNat)
          case atStart => exact ⟨0, m, y, _, by omega, rfl, by simp [clrB], rfl, HMM.out, HI3.out, HG3.out, HS3.out, cov_at HMM.out HM3.out⟩
          case round =>
            obtain ⟨v, m', X, L', hv8, rfl, hX, rfl, hm', hi', hg', hs', hmm'⟩ := hrel
            unfold clrB at hX
            have hml' : m' ≤ A + v := by rw [hm']; exact cnt_le d _
            have HG4 := Lib.hid hg'
            have HS4 := Lib.hid hs'
            have HM4 := Lib.hid hmm'
            have HI4 := Lib.hid hi'
            clear HG3 HS3 HM3 HI3 hg' hs' hmm' hi'
            by_cases hx : X = 0
            · have hend := byte_end ⟨y, by omega⟩ ⟨v, by omega⟩ (by rw [hX] at hx; exact hx)
              have hce : cntB d (A + 8) = m' := by
                have := cnt_zero d (A + v) (8 - v) (fun j hj => by rw [Nat.add_assoc, HBT.out (v + j) (by omega)]; exact hend ⟨v + j, by omega⟩ (by simp))
                rw [show A + v + (8 - v) = A + 8 by omega] at this
                rw [this, hm']
              have HCE := Lib.hid hce
              clear hend hce hm' hX
              subst hx
              go_wp2_with fail
              go_roundw
              case rel => exact ⟨q + 1, A + 8, m', ah, L', by go_num, by have := HA.out; omega, by omega, rfl, HCE.out.symm, rfl, fun h => by rw [show (A + 8) / 2048 * 2048 = A / 2048 * 2048 by have := HA.out; omega]; exact HAH.out G0.out, HI4.out, HG4.out, HS4.out, by rw [HCE.out]; exact HM4.out⟩
              case measure => simp [intOf]; omega
            · obtain ⟨t, ht⟩ : ∃ t, t = Lib.trailingZeros8 X := ⟨_, rfl⟩
              obtain ⟨b1, b2, b3, b4, b5⟩ := byte_step ⟨y, by omega⟩ ⟨v, by omega⟩ (by rw [hX] at hx; exact hx)
              simp only [← hX, ← ht] at b1 b2 b3 b4 b5
              have hX255 : X ≤ 255 := by rw [hX]; exact Nat.le_trans (Nat.div_mul_le_self _ _) hy255
              have hand := and_pred ⟨X, by omega⟩ hx
              simp only [b5] at hand
              have hlt2 : y / 2 ^ (t + 1) * 2 ^ (t + 1) < X := by rw [← b5]; exact Nat.lt_of_le_of_lt Nat.and_le_right (by omega)
              obtain ⟨X2, hX2⟩ : ∃ X2, X2 = y / 2 ^ (t + 1) * 2 ^ (t + 1) := ⟨_, rfl⟩
              rw [← hX2] at hand hlt2
              have hct : cntB d (A + t) = m' := by
                have := cnt_zero d (A + v) (t - v) (fun j hj => by rw [Nat.add_assoc, HBT.out (v + j) (by omega)]; exact b4 ⟨v + j, by omega⟩ (by simp) (by simp only; omega))
                rw [show A + v + (t - v) = A + t by omega] at this
                rw [this, hm']
              have hbit : btB d (A + t) = true := by rw [HBT.out t b2]; exact b3
              have hct1 : cntB d (A + (t + 1)) = m' + 1 := by rw [← Nat.add_assoc]; simp only [cntB]; rw [if_pos hbit, hct]
              have hAt : A + t < N := by
                by_cases h : N ≤ A + t
                · rw [pad_bits HL.out HP.out (A + t) h] at hbit; exact absurd hbit (by decide)
                · omega
              have htz := fun w => Try.bits_TrailingZeros8 (X : Int) w (by omega) (by omega)
              rw [Int.toNat_natCast, ← ht] at htz
              have HTZ := Lib.hid htz
              have HC1 := Lib.hid hct1
              have HX2 := Lib.hid hX2
              have hmN : m' ≤ 67108864 := by omega
              have ht8 : t + 1 ≤ 8 := by omega
              clear hm' hX ht b1 b2 b3 b4 b5 htz hct1 hX2
              have hxI : ¬ (X : Int) = 0 := by omega
              by_cases m0 : m' % 512 = 0
              · have e3 : ((m' : Int) % 512 == 0) = true := by simp; omega
                have vm : (mkL d N)[m' / 512]? = some (A + t) := by
                  have := mk_get d N (A + t) hAt hbit (by rw [hct]; exact m0)
                  rw [hct] at this; exact this
                have h5 := fun w1 h => HT.out w1 L' 512 (m' / 512) (A + t) h (.inr (.inr ⟨rfl, vm⟩))
                simp only [Int.natCast_ediv, Int.natCast_add, show ((512 : Nat) : Int) = 512 from rfl] at h5
                have hG5 := HG4.out.app (512, m' / 512, A + t)
                have hS5 := HS4.out.app (512, m' / 512, A + t)
                have hM5 := HM4.out.step m0 vm
                have H5 := Lib.hid h5
                have HG5 := Lib.hid hG5
                have HS5 := Lib.hid hS5
                have HM5 := Lib.hid hM5
                clear h5 vm hG5 hS5 hM5 hct hbit m0
                go_wp2_with (first
                  | (go_at_call 110; refine (HTZ.out _).mono ?_; rintro e w5 ⟨rfl, rfl⟩)
                  | ((with_reducible refine (H5.out _ HI4.out).mono ?_); rintro e w6 ⟨rfl, hi6⟩; (have HI6 := Lib.hid hi6); clear hi6))
                go_roundw
                case rel => exact ⟨t + 1, m' + 1, X2, _, ht8, rfl, HX2.out, by go_num, HC1.out.symm, HI6.out, HG5.out, HS5.out, HM5.out⟩
                case measure => simp [intOf]; omega
              · have e3 : ((m' : Int) % 512 == 0) = false := by simp; omega
                have hM5 := HM4.out.skip m0
                have HM5 := Lib.hid hM5
                clear hM5 hct hbit m0
                go_wp2_with fail
                go_roundw
                case rel => exact ⟨t + 1, m' + 1, X2, _, ht8, rfl, HX2.out, by go_num, HC1.out.symm, HI4.out, HG4.out, HS4.out, HM5.out⟩
                case measure => simp [intOf]; omega
        · have e2 : ((A : Int) % 256 == 0) = false := by simp; omega
          have hG3 := HG.out.skip (by have := HA.out; omega) g0
          have hS3 := HS.out.skip (by have := HA.out; omega) s0
          have HG3 := Lib.hid hG3
          have HS3 := Lib.hid hS3
          have HM3 := HM
          have HI3 := hI'
          clear g0 s0 hG3 hS3 ha
          go_upto_region 11 with fail
          clear e1 e2
          have hsc := HSL.out wr L HI3.out
          have hA8 : A / 8 = q := by have := HA.out; omega
          obtain ⟨b, o, rfl, hc⟩ := hsc.cell (A / 8) (by omega)
          have hlq : q < d.length := by have := HNN.out; omega
          obtain ⟨y, hy⟩ : ∃ y : Nat, y = (d.getD q 0).toNat := ⟨_, rfl⟩
          have hyv : (nums d).getD (A / 8) 0 = (y : Int) := by rw [hA8, nums_getD d q hlq, hy, List.getD_eq_getElem?_getD, List.getElem?_eq_getElem hlq]; rfl
          rw [hyv] at hc
          have hy255 : y ≤ 255 := by rw [hy]; have := UInt8.toNat_lt (d.getD q 0); omega
          have hbt : ∀ j, j < 8 → btB d (A + j) = y.testBit j := fun j hj => by rw [hy, HA.out]; exact bt_at d q j hj
          have HBT := Lib.hid hbt
          have hA8n : A / 8 < n := by omega
          clear hsc hy hyv hbt hA8
          go_wp2_with fail
          go_loopw [7, 10] (fun ov xv wr => ∃ (v m' X : Nat) (L' : List (Nat × Nat × Nat)), v ≤ 8 ∧ xv = .int .u8 (X : Nat) ∧ X = clrB y v ∧ ov = .int .i64 (m' : Nat) ∧ m' = cntB d (A + v) ∧ I wr L' ∧ CovG d N L' (A + 8) ∧ CovS d N L' (A + 8) ∧ CovM d N L' m') (fun _ xv _ => (intOf xv).toNat)
          case atStart => exact ⟨0, m, y, _, by omega, rfl, by simp [clrB], rfl, HMM.out, HI3.out, HG3.out, HS3.out, cov_at HMM.out HM3.out⟩
          case round =>
            obtain ⟨v, m', X, L', hv8, rfl, hX, rfl, hm', hi', hg', hs', hmm'⟩ := hrel
            unfold clrB at hX
            have hml' : m' ≤ A + v := by rw [hm']; exact cnt_le d _
            have HG4 := Lib.hid hg'
            have HS4 := Lib.hid hs'
            have HM4 := Lib.hid hmm'
            have HI4 := Lib.hid hi'
            clear HG3 HS3 HM3 HI3 hg' hs' hmm' hi'
            by_cases hx : X = 0
            · have hend := byte_end ⟨y, by omega⟩ ⟨v, by omega⟩ (by rw [hX] at hx; exact hx)
              have hce : cntB d (A + 8) = m' := by
                have := cnt_zero d (A + v) (8 - v) (fun j hj => by rw [Nat.add_assoc, HBT.out (v + j) (by omega)]; exact hend ⟨v + j, by omega⟩ (by simp))
                rw [show A + v + (8 - v) = A + 8 by omega] at this
                rw [this, hm']
              have HCE := Lib.hid hce
              clear hend hce hm' hX
              subst hx
              go_wp2_with fail
              go_roundw
              case rel => exact ⟨q + 1, A + 8, m', ah, L', by go_num, by have := HA.out; omega, by omega, rfl, HCE.out.symm, rfl, fun h => by rw [show (A + 8) / 2048 * 2048 = A / 2048 * 2048 by have := HA.out; omega]; exact HAH.out G0.out, HI4.out, HG4.out, HS4.out, by rw [HCE.out]; exact HM4.out⟩
              case measure => simp [intOf]; omega
            · obtain ⟨t, ht⟩ : ∃ t, t = Lib.trailingZeros8 X := ⟨_, rfl⟩
              obtain ⟨b1, b2, b3, b4, b5⟩ := byte_step ⟨y, by omega⟩ ⟨v, by omega⟩ (by rw [hX] at hx; exact hx)
              simp only [← hX, ← ht] at b1 b2 b3 b4 b5
              have hX255 : X ≤ 255 := by rw [hX]; exact Nat.le_trans (Nat.div_mul_le_self _ _) hy255
              have hand := and_pred ⟨X, by omega⟩ hx
              simp only [b5] at hand
              have hlt2 : y / 2 ^ (t + 1) * 2 ^ (t + 1) < X := by rw [← b5]; exact Nat.lt_of_le_of_lt Nat.and_le_right (by omega)
              obtain ⟨X2, hX2⟩ : ∃ X2, X2 = y / 2 ^ (t + 1) * 2 ^ (t + 1) := ⟨_, rfl⟩
              rw [← hX2] at hand hlt2
              have hct : cntB d (A + t) = m' := by
                have := cnt_zero d (A + v) (t - v) (fun j hj => by rw [Nat.add_assoc, HBT.out (v + j) (by omega)]; exact b4 ⟨v + j, by omega⟩ (by simp) (by simp only; omega))
                rw [show A + v + (t - v) = A + t by omega] at this
                rw [this, hm']
              have hbit : btB d (A + t) = true := by rw [HBT.out t b2]; exact b3
              have hct1 : cntB d (A + (t + 1)) = m' + 1 := by rw [← Nat.add_assoc]; simp only [cntB]; rw [if_pos hbit, hct]
              have hAt : A + t < N := by
                by_cases h : N ≤ A + t
                · rw [pad_bits HL.out HP.out (A + t) h] at hbit; exact absurd hbit (by decide)
                · omega
              have htz := fun w => Try.bits_TrailingZeros8 (X : Int) w (by omega) (by omega)
              rw [Int.toNat_natCast, ← ht] at htz
              have HTZ := Lib.hid htz
              have HC1 := Lib.hid hct1
              have HX2 := Lib.hid hX2
              have hmN : m' ≤ 67108864 := by omega
              have ht8 : t + 1 ≤ 8 := by omega
              clear hm' hX ht b1 b2 b3 b4 b5 htz hct1 hX2
              have hxI : ¬ (X : Int) = 0 := by omega
              by_cases m0 : m' % 512 = 0
              · have e3 : ((m' : Int) % 512 == 0) = true := by simp; omega
                have vm : (mkL d N)[m' / 512]? = some (A + t) := by
                  have := mk_get d N (A + t) hAt hbit (by rw [hct]; exact m0)
                  rw [hct] at this; exact this
                have h5 := fun w1 h => HT.out w1 L' 512 (m' / 512) (A + t) h (.inr (.inr ⟨rfl, vm⟩))
                simp only [Int.natCast_ediv, Int.natCast_add, show ((512 : Nat) : Int) = 512 from rfl] at h5
                have hG5 := HG4.out.app (512, m' / 512, A + t)
                have hS5 := HS4.out.app (512, m' / 512, A + t)
                have hM5 := HM4.out.step m0 vm
                have H5 := Lib.hid h5
                have HG5 := Lib.hid hG5
                have HS5 := Lib.hid hS5
                have HM5 := Lib.hid hM5
                clear h5 vm hG5 hS5 hM5 hct hbit m0
                go_wp2_with (first
                  | (go_at_call 110; refine (HTZ.out _).mono ?_; rintro e w5 ⟨rfl, rfl⟩)
                  | ((with_reducible refine (H5.out _ HI4.out).mono ?_); rintro e w6 ⟨rfl, hi6⟩; (have HI6 := Lib.hid hi6); clear hi6))
                go_roundw
                case rel => exact ⟨t + 1, m' + 1, X2, _, ht8, rfl, HX2.out, by go_num, HC1.out.symm, HI6.out, HG5.out, HS5.out, HM5.out⟩
                case measure => simp [intOf]; omega
              · have e3 : ((m' : Int) % 512 == 0) = false := by simp; omega
                have hM5 := HM4.out.skip m0
                have HM5 := Lib.hid hM5
                clear hM5 hct hbit m0
                go_wp2_with fail
                go_roundw
                case rel => exact ⟨t + 1, m' + 1, X2, _, ht8, rfl, HX2.out, by go_num, HC1.out.symm, HI4.out, HG4.out, HS4.out, HM5.out⟩
                case measure => simp [intOf]; omega
    · obtain rfl : q = n := by have := HL.out; have := HNN.out; omega
      go_wp2
      go_ret
      refine ⟨rfl, L, hI, fun t ht => ?_⟩
      obtain ⟨t1, t2, t3⟩ := t
      have hAn : N ≤ A := by omega
      rcases ht with ⟨h1, h2⟩ | ⟨h1, h2⟩ | ⟨h1, h2⟩
      · simp only at h1 h2
        subst h1
        have := (List.getElem?_eq_some_iff.1 h2).1
        rw [gr_len] at this
        exact hG t2 t3 (by omega) h2
      · simp only at h1 h2
        subst h1
        have := (List.getElem?_eq_some_iff.1 h2).1
        rw [sm_len] at this
        exact hS t2 t3 (by omega) h2
      · simp only at h1 h2
        subst h1
        have := (List.getElem?_eq_some_iff.1 h2).1
        rw [mk_len] at this
        exact hM t2 t3 (by rw [pad_cnt HL.out HP.out A hAn]; omega) h2
end Go.Proofs.Ytgajpekolamjbaa
