/- RkDir RkB RkR, laid as one. -/
import Derived.Test.YtgajpekolamjbaaRkW
import Derived.Deep.CutBlock
import Derived.Test.YtgajpekolamjbaaOwnC
set_option linter.unusedVariables false
set_option linter.unusedSimpArgs false
/- directory: tells the numbers of the directories, each as it must be, and all of them. -/
namespace Go.Proofs.Ytgajpekolamjbaa
open Go.RowKit Go.Tk
set_option maxRecDepth 100000 in
set_option maxHeartbeats 2000000 in
theorem directory_calls (F : FuncId) (x1 x2 : Value) (hcf : ∀ (p q r : Int) (w : World), (callFunc F #[.int .i64 p, .int .i64 q, .int .i64 r, x1, x2]).run Try.prog w = .ok (.enter F #[.int .i64 p, .int .i64 q, .int .i64 r, x1, x2]) w) (w : World) (a : Option Addr) (n c : Nat) (d : List UInt8) (N : Nat) (hn : n = d.length) (hl : d.length = (N + 7) / 8) (hp : padB d N = true) (hN : N ≤ 67108864)
    (I : World → List (Nat × Nat × Nat) → Prop) (hI0 : I w []) (hsl : ∀ w' L, I w' L → SlI .u8 w' a n c (nums d))
    (hT : ∀ w' L part i v, I w' L → Vt d N (part, i, v) → Calls Try.prog F #[.int .i64 (part : Nat), .int .i64 (i : Nat), .int .i64 (v : Nat), x1, x2] w' fun e w'' => e = .returned (.bool true) ∧ I w'' (L ++ [(part, i, v)])) :
    Calls Try.prog 84 #[.slice a n c, .int .i64 (N : Nat), .func (.func F) #[] #[x1, x2]] w fun e w' => e = .returned (.bool true) ∧ ∃ L, I w' L ∧ ∀ t, Vt d N t → t ∈ L := by
  have HSL := Lib.hid hsl
  have HT := Lib.hid hT
  have HI0 := Lib.hid hI0
  have HL := Lib.hid hl
  have HP := Lib.hid hp
  have HNN := Lib.hid hn
  clear hsl hT hI0 hl hp hn
  go_enter Try.func84, Try.ntmps84
  go_wp2
  go_loopw [7, 8, 9] (fun ov av tv wr => ∃ (q A m ah : Nat) (L : List (Nat × Nat × Nat)), tv = .int .i64 (A : Nat) ∧ A = 8 * q ∧ q ≤ n ∧ ov = .int .i64 (m : Nat) ∧ m = cntB d A ∧ av = .int .i64 (ah : Nat) ∧ (¬ A % 2048 = 0 → ah = cntB d (A / 2048 * 2048)) ∧ I wr L ∧ CovG d N L A ∧ CovS d N L A ∧ CovM d N L (cntB d A)) (fun _ _ tv _ => N + 8 - (intOf tv).toNat)
  case atStart => exact ⟨0, 0, 0, 0, [], rfl, rfl, Nat.zero_le _, rfl, rfl, rfl, fun h => absurd rfl h, HI0.out, fun j v h => by omega, fun j v h => by omega, fun j v h => by simp [cntB] at h⟩
  case round =>
    obtain ⟨q, A, m, ah, L, rfl, hA, hq, rfl, hm, rfl, hah, hI, hG, hS, hM⟩ := hrel
    by_cases hAN : A < N
    · have hqn : q < n := by have := HL.out; have := HNN.out; omega
      have hml : m ≤ A := by rw [hm]; exact cnt_le d A
      have hI' := Lib.hid hI
      have HG := Lib.hid hG
      have HS := Lib.hid hS
      have HM := Lib.hid hM
      have HA := Lib.hid hA
      have HMM := Lib.hid hm
      have HAH := Lib.hid hah
      clear hI hG hS hM hA hm hah
      by_cases g0 : A % 2048 = 0
      · have s0 : A % 256 = 0 := by omega
        have e1 : ((A : Int) % 2048 == 0) = true := by simp; omega
        have e2 : ((A : Int) % 256 == 0) = true := by simp; omega
        have vg : (grL d N)[A / 2048]? = some m := by rw [gr_get d _ _ (by omega), HMM.out, show A / 2048 * 2048 = A by omega]
        have vs : (smL d N)[A / 256]? = some 0 := by rw [sm_get d _ _ (by omega), show A / 256 * 256 = A by omega, show A / 256 / 8 * 2048 = A by omega, Nat.sub_self]
        have h1 := HT.out wr L 2048 (A / 2048) m hI'.out (.inl ⟨rfl, vg⟩)
        have h2 := fun w1 h => HT.out w1 (L ++ [(2048, A / 2048, m)]) 256 (A / 256) 0 h (.inr (.inl ⟨rfl, vs⟩))
        rw [Int.natCast_ediv, show ((2048 : Nat) : Int) = 2048 from rfl] at h1
        simp only [Int.natCast_ediv, show ((256 : Nat) : Int) = 256 from rfl, show ((0 : Nat) : Int) = 0 from rfl] at h2
        have hG2 := HG.out.step g0 vg
        have hG3 := hG2.app (256, A / 256, 0)
        have hS3 := (HS.out.app (2048, A / 2048, m)).step s0 vs
        have hM3 := (HM.out.app (2048, A / 2048, m)).app (256, A / 256, 0)
        have H1 := Lib.hid h1
        have H2 := Lib.hid h2
        have HG3 := Lib.hid hG3
        have HS3 := Lib.hid hS3
        have HM3 := Lib.hid hM3
        have G0 := Lib.hid g0
        clear h1 h2 vg vs g0 s0 hG2 hG3 hS3 hM3
        go_upto_region 11 with (first
          | ((with_reducible refine H1.out.mono ?_); rintro e w1 ⟨rfl, hi1⟩; (have HI1 := Lib.hid hi1); clear hi1)
          | ((with_reducible refine (H2.out _ HI1.out).mono ?_); rintro e w2 ⟨rfl, hi2⟩; (have HI2 := Lib.hid hi2); clear hi2))
        have HI3 := HI2
        clear e1 e2 H1 H2 HI1 HI2
        have hsc := HSL.out w2 (L ++ [(2048, A / 2048, m)] ++ [(256, A / 256, 0)]) HI3.out
        have hA8 : A / 8 = q := by have := HA.out; omega
        obtain ⟨b, o, rfl, hc⟩ := hsc.cell (A / 8) (by omega)
        have hlq : q < d.length := by have := HNN.out; omega
        obtain ⟨y, hy⟩ : ∃ y : Nat, y = (d.getD q 0).toNat := ⟨_, rfl⟩
        have hyv : (nums d).getD (A / 8) 0 = (y : Int) := by rw [hA8, nums_getD d q hlq, hy, List.getD_eq_getElem?_getD, List.getElem?_eq_getElem hlq]; rfl
        rw [hyv] at hc
        have hy255 : y ≤ 255 := by rw [hy]; have := UInt8.toNat_lt (d.getD q 0); omega
        have hbt : ∀ j, j < 8 → btB d (A + j) = y.testBit j := fun j hj => by rw [hy, HA.out]; exact bt_at d q j hj
        have HBT := Lib.hid hbt
        have hA8n : A / 8 < n := by omega
        clear hsc hy hyv hbt hA8
        go_wp2_with fail
        go_loopw [7, 10] (fun ov xv wr => ∃ (v m' X : Nat) (L' : List (Nat × Nat × Nat)), v ≤ 8 ∧ xv = .int .u8 (X : Nat) ∧ X = clrB y v ∧ ov = .int .i64 (m' : Nat) ∧ m' = cntB d (A + v) ∧ I wr L' ∧ CovG d N L' (A + 8) ∧ CovS d N L' (A + 8) ∧ CovM d N L' m') (fun _ xv _ => (intOf xv).toNat)
        case atStart => exact ⟨0, m, y, _, by omega, rfl, by simp [clrB], rfl, HMM.out, HI3.out, HG3.out, HS3.out, cov_at HMM.out HM3.out⟩
        case round =>
          obtain ⟨v, m', X, L', hv8, rfl, hX, rfl, hm', hi', hg', hs', hmm'⟩ := hrel
          unfold clrB at hX
          have hml' : m' ≤ A + v := by rw [hm']; exact cnt_le d _
          have HG4 := Lib.hid hg'
          have HS4 := Lib.hid hs'
          have HM4 := Lib.hid hmm'
          have HI4 := Lib.hid hi'
          clear HG3 HS3 HM3 HI3 hg' hs' hmm' hi'
          by_cases hx : X = 0
          · have hend := byte_end ⟨y, by omega⟩ ⟨v, by omega⟩ (by rw [hX] at hx; exact hx)
            have hce : cntB d (A + 8) = m' := by
              have := cnt_zero d (A + v) (8 - v) (fun j hj => by rw [Nat.add_assoc, HBT.out (v + j) (by omega)]; exact hend ⟨v + j, by omega⟩ (by simp))
              rw [show A + v + (8 - v) = A + 8 by omega] at this
              rw [this, hm']
            have HCE := Lib.hid hce
            clear hend hce hm' hX
            subst hx
            go_wp2_with fail
            go_roundw
            case rel => exact ⟨q + 1, A + 8, m', m, L', by go_num, by have := HA.out; omega, by omega, rfl, HCE.out.symm, rfl, fun h => by rw [HMM.out, show (A + 8) / 2048 * 2048 = A by have := G0.out; omega], HI4.out, HG4.out, HS4.out, by rw [HCE.out]; exact HM4.out⟩
            case measure => simp [intOf]; omega
          · obtain ⟨t, ht⟩ : ∃ t, t = Lib.trailingZeros8 X := ⟨_, rfl⟩
            obtain ⟨b1, b2, b3, b4, b5⟩ := byte_step ⟨y, by omega⟩ ⟨v, by omega⟩ (by rw [hX] at hx; exact hx)
            simp only [← hX, ← ht] at b1 b2 b3 b4 b5
            have hX255 : X ≤ 255 := by rw [hX]; exact Nat.le_trans (Nat.div_mul_le_self _ _) hy255
            have hand := and_pred ⟨X, by omega⟩ hx
            simp only [b5] at hand
            have hlt2 : y / 2 ^ (t + 1) * 2 ^ (t + 1) < X := by rw [← b5]; exact Nat.lt_of_le_of_lt Nat.and_le_right (by omega)
            obtain ⟨X2, hX2⟩ : ∃ X2, X2 = y / 2 ^ (t + 1) * 2 ^ (t + 1) := ⟨_, rfl⟩
            rw [← hX2] at hand hlt2
            have hct : cntB d (A + t) = m' := by
              have := cnt_zero d (A + v) (t - v) (fun j hj => by rw [Nat.add_assoc, HBT.out (v + j) (by omega)]; exact b4 ⟨v + j, by omega⟩ (by simp) (by simp only; omega))
              rw [show A + v + (t - v) = A + t by omega] at this
              rw [this, hm']
            have hbit : btB d (A + t) = true := by rw [HBT.out t b2]; exact b3
            have hct1 : cntB d (A + (t + 1)) = m' + 1 := by rw [← Nat.add_assoc]; simp only [cntB]; rw [if_pos hbit, hct]
            have hAt : A + t < N := by
              by_cases h : N ≤ A + t
              · rw [pad_bits HL.out HP.out (A + t) h] at hbit; exact absurd hbit (by decide)
              · omega
            have htz := fun w => Try.bits_TrailingZeros8 (X : Int) w (by omega) (by omega)
            rw [Int.toNat_natCast, ← ht] at htz
            have HTZ := Lib.hid htz
            have HC1 := Lib.hid hct1
            have HX2 := Lib.hid hX2
            have hmN : m' ≤ 67108864 := by omega
            have ht8 : t + 1 ≤ 8 := by omega
            clear hm' hX ht b1 b2 b3 b4 b5 htz hct1 hX2
            have hxI : ¬ (X : Int) = 0 := by omega
            by_cases m0 : m' % 512 = 0
            · have e3 : ((m' : Int) % 512 == 0) = true := by simp; omega
              have vm : (mkL d N)[m' / 512]? = some (A + t) := by
                have := mk_get d N (A + t) hAt hbit (by rw [hct]; exact m0)
                rw [hct] at this; exact this
              have h5 := fun w1 h => HT.out w1 L' 512 (m' / 512) (A + t) h (.inr (.inr ⟨rfl, vm⟩))
              simp only [Int.natCast_ediv, Int.natCast_add, show ((512 : Nat) : Int) = 512 from rfl] at h5
              have hG5 := HG4.out.app (512, m' / 512, A + t)
              have hS5 := HS4.out.app (512, m' / 512, A + t)
              have hM5 := HM4.out.step m0 vm
              have H5 := Lib.hid h5
              have HG5 := Lib.hid hG5
              have HS5 := Lib.hid hS5
              have HM5 := Lib.hid hM5
              clear h5 vm hG5 hS5 hM5 hct hbit m0
              go_wp2_with (first
                | (go_at_call 110; refine (HTZ.out _).mono ?_; rintro e w5 ⟨rfl, rfl⟩)
                | ((with_reducible refine (H5.out _ HI4.out).mono ?_); rintro e w6 ⟨rfl, hi6⟩; (have HI6 := Lib.hid hi6); clear hi6))
              go_roundw
              case rel => exact ⟨t + 1, m' + 1, X2, _, ht8, rfl, HX2.out, by go_num, HC1.out.symm, HI6.out, HG5.out, HS5.out, HM5.out⟩
              case measure => simp [intOf]; omega
            · have e3 : ((m' : Int) % 512 == 0) = false := by simp; omega
              have hM5 := HM4.out.skip m0
              have HM5 := Lib.hid hM5
              clear hM5 hct hbit m0
              go_wp2_with fail
              go_roundw
              case rel => exact ⟨t + 1, m' + 1, X2, _, ht8, rfl, HX2.out, by go_num, HC1.out.symm, HI4.out, HG4.out, HS4.out, HM5.out⟩
              case measure => simp [intOf]; omega
      · have e1 : ((A : Int) % 2048 == 0) = false := by simp; omega
        have ha := HAH.out g0
        have G0 := Lib.hid g0
        by_cases s0 : A % 256 = 0
        · have e2 : ((A : Int) % 256 == 0) = true := by simp; omega
          have vs : (smL d N)[A / 256]? = some (m - ah) := by rw [sm_get d _ _ (by omega), show A / 256 * 256 = A by omega, show A / 256 / 8 * 2048 = A / 2048 * 2048 by omega, HMM.out, ha]
          have hle : ah ≤ m := by rw [HMM.out, ha]; exact cnt_mono d (by omega)
          have h2 := HT.out wr L 256 (A / 256) (m - ah) hI'.out (.inr (.inl ⟨rfl, vs⟩))
          rw [Int.natCast_ediv, Int.natCast_sub hle, show ((256 : Nat) : Int) = 256 from rfl] at h2
          have hG3 := (HG.out.skip (by have := HA.out; omega) g0).app (256, A / 256, m - ah)
          have hS3 := HS.out.step s0 vs
          have hM3 := HM.out.app (256, A / 256, m - ah)
          have H2 := Lib.hid h2
          have HG3 := Lib.hid hG3
          have HS3 := Lib.hid hS3
          have HM3 := Lib.hid hM3
          clear h2 vs g0 s0 hG3 hS3 hM3 ha
          go_upto_region 11 with ((with_reducible refine H2.out.mono ?_); rintro e w2 ⟨rfl, hi2⟩; (have HI3 := Lib.hid hi2); clear hi2)
          clear e1 e2 H2 hle
          have hsc := HSL.out w2 (L ++ [(256, A / 256, m - ah)]) HI3.out
          have hA8 : A / 8 = q := by have := HA.out; omega
          obtain ⟨b, o, rfl, hc⟩ := hsc.cell (A / 8) (by omega)
          have hlq : q < d.length := by have := HNN.out; omega
          obtain ⟨y, hy⟩ : ∃ y : Nat, y = (d.getD q 0).toNat := ⟨_, rfl⟩
          have hyv : (nums d).getD (A / 8) 0 = (y : Int) := by rw [hA8, nums_getD d q hlq, hy, List.getD_eq_getElem?_getD, List.getElem?_eq_getElem hlq]; rfl
          rw [hyv] at hc
          have hy255 : y ≤ 255 := by rw [hy]; have := UInt8.toNat_lt (d.getD q 0); omega
          have hbt : ∀ j, j < 8 → btB d (A + j) = y.testBit j := fun j hj => by rw [hy, HA.out]; exact bt_at d q j hj
          have HBT := Lib.hid hbt
          have hA8n : A / 8 < n := by omega
          clear hsc hy hyv hbt hA8
          go_wp2_with fail
          go_loopw [7, 10] (fun ov xv wr => ∃ (v m' X : Nat) (L' : List (Nat × Nat × Nat)), v ≤ 8 ∧ xv = .int .u8 (X : Nat) ∧ X = clrB y v ∧ ov = .int .i64 (m' : Nat) ∧ m' = cntB d (A + v) ∧ I wr L' ∧ CovG d N L' (A + 8) ∧ CovS d N L' (A + 8) ∧ CovM d N L' m') (fun _ xv _ => (intOf xv).toNat)
          case atStart => exact ⟨0, m, y, _, by omega, rfl, by simp [clrB], rfl, HMM.out, HI3.out, HG3.out, HS3.out, cov_at HMM.out HM3.out⟩
          case round =>
            obtain ⟨v, m', X, L', hv8, rfl, hX, rfl, hm', hi', hg', hs', hmm'⟩ := hrel
            unfold clrB at hX
            have hml' : m' ≤ A + v := by rw [hm']; exact cnt_le d _
            have HG4 := Lib.hid hg'
            have HS4 := Lib.hid hs'
            have HM4 := Lib.hid hmm'
            have HI4 := Lib.hid hi'
            clear HG3 HS3 HM3 HI3 hg' hs' hmm' hi'
            by_cases hx : X = 0
            · have hend := byte_end ⟨y, by omega⟩ ⟨v, by omega⟩ (by rw [hX] at hx; exact hx)
              have hce : cntB d (A + 8) = m' := by
                have := cnt_zero d (A + v) (8 - v) (fun j hj => by rw [Nat.add_assoc, HBT.out (v + j) (by omega)]; exact hend ⟨v + j, by omega⟩ (by simp))
                rw [show A + v + (8 - v) = A + 8 by omega] at this
                rw [this, hm']
              have HCE := Lib.hid hce
              clear hend hce hm' hX
              subst hx
              go_wp2_with fail
              go_roundw
              case rel => exact ⟨q + 1, A + 8, m', ah, L', by go_num, by have := HA.out; omega, by omega, rfl, HCE.out.symm, rfl, fun h => by rw [show (A + 8) / 2048 * 2048 = A / 2048 * 2048 by have := HA.out; omega]; exact HAH.out G0.out, HI4.out, HG4.out, HS4.out, by rw [HCE.out]; exact HM4.out⟩
              case measure => simp [intOf]; omega
            · obtain ⟨t, ht⟩ : ∃ t, t = Lib.trailingZeros8 X := ⟨_, rfl⟩
              obtain ⟨b1, b2, b3, b4, b5⟩ := byte_step ⟨y, by omega⟩ ⟨v, by omega⟩ (by rw [hX] at hx; exact hx)
              simp only [← hX, ← ht] at b1 b2 b3 b4 b5
              have hX255 : X ≤ 255 := by rw [hX]; exact Nat.le_trans (Nat.div_mul_le_self _ _) hy255
              have hand := and_pred ⟨X, by omega⟩ hx
              simp only [b5] at hand
              have hlt2 : y / 2 ^ (t + 1) * 2 ^ (t + 1) < X := by rw [← b5]; exact Nat.lt_of_le_of_lt Nat.and_le_right (by omega)
              obtain ⟨X2, hX2⟩ : ∃ X2, X2 = y / 2 ^ (t + 1) * 2 ^ (t + 1) := ⟨_, rfl⟩
              rw [← hX2] at hand hlt2
              have hct : cntB d (A + t) = m' := by
                have := cnt_zero d (A + v) (t - v) (fun j hj => by rw [Nat.add_assoc, HBT.out (v + j) (by omega)]; exact b4 ⟨v + j, by omega⟩ (by simp) (by simp only; omega))
                rw [show A + v + (t - v) = A + t by omega] at this
                rw [this, hm']
              have hbit : btB d (A + t) = true := by rw [HBT.out t b2]; exact b3
              have hct1 : cntB d (A + (t + 1)) = m' + 1 := by rw [← Nat.add_assoc]; simp only [cntB]; rw [if_pos hbit, hct]
              have hAt : A + t < N := by
                by_cases h : N ≤ A + t
                · rw [pad_bits HL.out HP.out (A + t) h] at hbit; exact absurd hbit (by decide)
                · omega
              have htz := fun w => Try.bits_TrailingZeros8 (X : Int) w (by omega) (by omega)
              rw [Int.toNat_natCast, ← ht] at htz
              have HTZ := Lib.hid htz
              have HC1 := Lib.hid hct1
              have HX2 := Lib.hid hX2
              have hmN : m' ≤ 67108864 := by omega
              have ht8 : t + 1 ≤ 8 := by omega
              clear hm' hX ht b1 b2 b3 b4 b5 htz hct1 hX2
              have hxI : ¬ (X : Int) = 0 := by omega
              by_cases m0 : m' % 512 = 0
              · have e3 : ((m' : Int) % 512 == 0) = true := by simp; omega
                have vm : (mkL d N)[m' / 512]? = some (A + t) := by
                  have := mk_get d N (A + t) hAt hbit (by rw [hct]; exact m0)
                  rw [hct] at this; exact this
                have h5 := fun w1 h => HT.out w1 L' 512 (m' / 512) (A + t) h (.inr (.inr ⟨rfl, vm⟩))
                simp only [Int.natCast_ediv, Int.natCast_add, show ((512 : Nat) : Int) = 512 from rfl] at h5
                have hG5 := HG4.out.app (512, m' / 512, A + t)
                have hS5 := HS4.out.app (512, m' / 512, A + t)
                have hM5 := HM4.out.step m0 vm
                have H5 := Lib.hid h5
                have HG5 := Lib.hid hG5
                have HS5 := Lib.hid hS5
                have HM5 := Lib.hid hM5
                clear h5 vm hG5 hS5 hM5 hct hbit m0
                go_wp2_with (first
                  | (go_at_call 110; refine (HTZ.out _).mono ?_; rintro e w5 ⟨rfl, rfl⟩)
                  | ((with_reducible refine (H5.out _ HI4.out).mono ?_); rintro e w6 ⟨rfl, hi6⟩; (have HI6 := Lib.hid hi6); clear hi6))
                go_roundw
                case rel => exact ⟨t + 1, m' + 1, X2, _, ht8, rfl, HX2.out, by go_num, HC1.out.symm, HI6.out, HG5.out, HS5.out, HM5.out⟩
                case measure => simp [intOf]; omega
              · have e3 : ((m' : Int) % 512 == 0) = false := by simp; omega
                have hM5 := HM4.out.skip m0
                have HM5 := Lib.hid hM5
                clear hM5 hct hbit m0
                go_wp2_with fail
                go_roundw
                case rel => exact ⟨t + 1, m' + 1, X2, _, ht8, rfl, HX2.out, by go_num, HC1.out.symm, HI4.out, HG4.out, HS4.out, HM5.out⟩
                case measure => simp [intOf]; omega
        · have e2 : ((A : Int) % 256 == 0) = false := by simp; omega
          have hG3 := HG.out.skip (by have := HA.out; omega) g0
          have hS3 := HS.out.skip (by have := HA.out; omega) s0
          have HG3 := Lib.hid hG3
          have HS3 := Lib.hid hS3
          have HM3 := HM
          have HI3 := hI'
          clear g0 s0 hG3 hS3 ha
          go_upto_region 11 with fail
          clear e1 e2
          have hsc := HSL.out wr L HI3.out
          have hA8 : A / 8 = q := by have := HA.out; omega
          obtain ⟨b, o, rfl, hc⟩ := hsc.cell (A / 8) (by omega)
          have hlq : q < d.length := by have := HNN.out; omega
          obtain ⟨y, hy⟩ : ∃ y : Nat, y = (d.getD q 0).toNat := ⟨_, rfl⟩
          have hyv : (nums d).getD (A / 8) 0 = (y : Int) := by rw [hA8, nums_getD d q hlq, hy, List.getD_eq_getElem?_getD, List.getElem?_eq_getElem hlq]; rfl
          rw [hyv] at hc
          have hy255 : y ≤ 255 := by rw [hy]; have := UInt8.toNat_lt (d.getD q 0); omega
          have hbt : ∀ j, j < 8 → btB d (A + j) = y.testBit j := fun j hj => by rw [hy, HA.out]; exact bt_at d q j hj
          have HBT := Lib.hid hbt
          have hA8n : A / 8 < n := by omega
          clear hsc hy hyv hbt hA8
          go_wp2_with fail
          go_loopw [7, 10] (fun ov xv wr => ∃ (v m' X : Nat) (L' : List (Nat × Nat × Nat)), v ≤ 8 ∧ xv = .int .u8 (X : Nat) ∧ X = clrB y v ∧ ov = .int .i64 (m' : Nat) ∧ m' = cntB d (A + v) ∧ I wr L' ∧ CovG d N L' (A + 8) ∧ CovS d N L' (A + 8) ∧ CovM d N L' m') (fun _ xv _ => (intOf xv).toNat)
          case atStart => exact ⟨0, m, y, _, by omega, rfl, by simp [clrB], rfl, HMM.out, HI3.out, HG3.out, HS3.out, cov_at HMM.out HM3.out⟩
          case round =>
            obtain ⟨v, m', X, L', hv8, rfl, hX, rfl, hm', hi', hg', hs', hmm'⟩ := hrel
            unfold clrB at hX
            have hml' : m' ≤ A + v := by rw [hm']; exact cnt_le d _
            have HG4 := Lib.hid hg'
            have HS4 := Lib.hid hs'
            have HM4 := Lib.hid hmm'
            have HI4 := Lib.hid hi'
            clear HG3 HS3 HM3 HI3 hg' hs' hmm' hi'
            by_cases hx : X = 0
            · have hend := byte_end ⟨y, by omega⟩ ⟨v, by omega⟩ (by rw [hX] at hx; exact hx)
              have hce : cntB d (A + 8) = m' := by
                have := cnt_zero d (A + v) (8 - v) (fun j hj => by rw [Nat.add_assoc, HBT.out (v + j) (by omega)]; exact hend ⟨v + j, by omega⟩ (by simp))
                rw [show A + v + (8 - v) = A + 8 by omega] at this
                rw [this, hm']
              have HCE := Lib.hid hce
              clear hend hce hm' hX
              subst hx
              go_wp2_with fail
              go_roundw
              case rel => exact ⟨q + 1, A + 8, m', ah, L', by go_num, by have := HA.out; omega, by omega, rfl, HCE.out.symm, rfl, fun h => by rw [show (A + 8) / 2048 * 2048 = A / 2048 * 2048 by have := HA.out; omega]; exact HAH.out G0.out, HI4.out, HG4.out, HS4.out, by rw [HCE.out]; exact HM4.out⟩
              case measure => simp [intOf]; omega
            · obtain ⟨t, ht⟩ : ∃ t, t = Lib.trailingZeros8 X := ⟨_, rfl⟩
              obtain ⟨b1, b2, b3, b4, b5⟩ := byte_step ⟨y, by omega⟩ ⟨v, by omega⟩ (by rw [hX] at hx; exact hx)
              simp only [← hX, ← ht] at b1 b2 b3 b4 b5
              have hX255 : X ≤ 255 := by rw [hX]; exact Nat.le_trans (Nat.div_mul_le_self _ _) hy255
              have hand := and_pred ⟨X, by omega⟩ hx
              simp only [b5] at hand
              have hlt2 : y / 2 ^ (t + 1) * 2 ^ (t + 1) < X := by rw [← b5]; exact Nat.lt_of_le_of_lt Nat.and_le_right (by omega)
              obtain ⟨X2, hX2⟩ : ∃ X2, X2 = y / 2 ^ (t + 1) * 2 ^ (t + 1) := ⟨_, rfl⟩
              rw [← hX2] at hand hlt2
              have hct : cntB d (A + t) = m' := by
                have := cnt_zero d (A + v) (t - v) (fun j hj => by rw [Nat.add_assoc, HBT.out (v + j) (by omega)]; exact b4 ⟨v + j, by omega⟩ (by simp) (by simp only; omega))
                rw [show A + v + (t - v) = A + t by omega] at this
                rw [this, hm']
              have hbit : btB d (A + t) = true := by rw [HBT.out t b2]; exact b3
              have hct1 : cntB d (A + (t + 1)) = m' + 1 := by rw [← Nat.add_assoc]; simp only [cntB]; rw [if_pos hbit, hct]
              have hAt : A + t < N := by
                by_cases h : N ≤ A + t
                · rw [pad_bits HL.out HP.out (A + t) h] at hbit; exact absurd hbit (by decide)
                · omega
              have htz := fun w => Try.bits_TrailingZeros8 (X : Int) w (by omega) (by omega)
              rw [Int.toNat_natCast, ← ht] at htz
              have HTZ := Lib.hid htz
              have HC1 := Lib.hid hct1
              have HX2 := Lib.hid hX2
              have hmN : m' ≤ 67108864 := by omega
              have ht8 : t + 1 ≤ 8 := by omega
              clear hm' hX ht b1 b2 b3 b4 b5 htz hct1 hX2
              have hxI : ¬ (X : Int) = 0 := by omega
              by_cases m0 : m' % 512 = 0
              · have e3 : ((m' : Int) % 512 == 0) = true := by simp; omega
                have vm : (mkL d N)[m' / 512]? = some (A + t) := by
                  have := mk_get d N (A + t) hAt hbit (by rw [hct]; exact m0)
                  rw [hct] at this; exact this
                have h5 := fun w1 h => HT.out w1 L' 512 (m' / 512) (A + t) h (.inr (.inr ⟨rfl, vm⟩))
                simp only [Int.natCast_ediv, Int.natCast_add, show ((512 : Nat) : Int) = 512 from rfl] at h5
                have hG5 := HG4.out.app (512, m' / 512, A + t)
                have hS5 := HS4.out.app (512, m' / 512, A + t)
                have hM5 := HM4.out.step m0 vm
                have H5 := Lib.hid h5
                have HG5 := Lib.hid hG5
                have HS5 := Lib.hid hS5
                have HM5 := Lib.hid hM5
                clear h5 vm hG5 hS5 hM5 hct hbit m0
                go_wp2_with (first
                  | (go_at_call 110; refine (HTZ.out _).mono ?_; rintro e w5 ⟨rfl, rfl⟩)
                  | ((with_reducible refine (H5.out _ HI4.out).mono ?_); rintro e w6 ⟨rfl, hi6⟩; (have HI6 := Lib.hid hi6); clear hi6))
                go_roundw
                case rel => exact ⟨t + 1, m' + 1, X2, _, ht8, rfl, HX2.out, by go_num, HC1.out.symm, HI6.out, HG5.out, HS5.out, HM5.out⟩
                case measure => simp [intOf]; omega
              · have e3 : ((m' : Int) % 512 == 0) = false := by simp; omega
                have hM5 := HM4.out.skip m0
                have HM5 := Lib.hid hM5
                clear hM5 hct hbit m0
                go_wp2_with fail
                go_roundw
                case rel => exact ⟨t + 1, m' + 1, X2, _, ht8, rfl, HX2.out, by go_num, HC1.out.symm, HI4.out, HG4.out, HS4.out, HM5.out⟩
                case measure => simp [intOf]; omega
    · obtain rfl : q = n := by have := HL.out; have := HNN.out; omega
      go_wp2
      go_ret
      refine ⟨rfl, L, hI, fun t ht => ?_⟩
      obtain ⟨t1, t2, t3⟩ := t
      have hAn : N ≤ A := by omega
      rcases ht with ⟨h1, h2⟩ | ⟨h1, h2⟩ | ⟨h1, h2⟩
      · simp only at h1 h2
        subst h1
        have := (List.getElem?_eq_some_iff.1 h2).1
        rw [gr_len] at this
        exact hG t2 t3 (by omega) h2
      · simp only at h1 h2
        subst h1
        have := (List.getElem?_eq_some_iff.1 h2).1
        rw [sm_len] at this
        exact hS t2 t3 (by omega) h2
      · simp only at h1 h2
        subst h1
        have := (List.getElem?_eq_some_iff.1 h2).1
        rw [mk_len] at this
        exact hM t2 t3 (by rw [pad_cnt HL.out HP.out A hAn]; omega) h2
end Go.Proofs.Ytgajpekolamjbaa
/- Build of the program: what its closure writes, the vector's bytes. -/
namespace Go.Proofs.Ytgajpekolamjbaa
open Go.RowKit Go.Tk
theorem cf_build {x1 x2 : Value} (p q r : Int) (w : World) : (callFunc 85 #[.int .i64 p, .int .i64 q, .int .i64 r, x1, x2]).run Try.prog w = .ok (.enter 85 #[.int .i64 p, .int .i64 q, .int .i64 r, x1, x2]) w := by kernel_rfl
theorem vt_le {d : List UInt8} {N part i v : Nat} (h : Vt d N (part, i, v)) (hN : N ≤ 67108864) : v ≤ 1000000000 := by
  have hc := cnt_le d N
  rcases h with ⟨_, h2⟩ | ⟨_, h2⟩ | ⟨_, h2⟩
  · simp only at h2
    have h3 := (List.getElem?_eq_some_iff.1 h2).1
    rw [gr_len] at h3
    rw [gr_get d i N (by omega)] at h2
    have := Option.some.inj h2
    have := cnt_le d (i * 2048)
    omega
  · simp only at h2
    have h3 := (List.getElem?_eq_some_iff.1 h2).1
    rw [sm_len] at h3
    rw [sm_get d i N (by omega)] at h2
    have := Option.some.inj h2
    have := cnt_le d (i * 256)
    omega
  · simp only at h2
    have h3 := (List.getElem?_eq_some_iff.1 h2).1
    rw [mk_len] at h3
    obtain ⟨u, a, _, _, e⟩ := mk_val d N i (by omega)
    rw [e] at h2
    have := Option.some.inj h2
    omega
theorem head_take {d : List UInt8} {N m E : Nat} (hE : 8 + d.length ≤ E) : ((putL (putL (List.replicate E 0) 0 N 4) 4 m 4).take 8 ++ (nums d ++ (putL (putL (List.replicate E 0) 0 N 4) 4 m 4).drop (8 + (nums d).length))).take (grO d) = nums (leB N 4 ++ leB m 4 ++ d) := by
  have hl : (putL (putL (List.replicate E 0) 0 N 4) 4 m 4).length = E := by rw [put_len, put_len]; simp
  have h8 : (putL (putL (List.replicate E 0) 0 N 4) 4 m 4).take 8 = nums (leB N 4 ++ leB m 4) := by
    apply List.ext_getElem?
    intro i
    by_cases hi : i < 8
    · rw [List.getElem?_take, if_pos hi, put_at _ _ _ _ _ (by rw [put_len]; simp; omega), nums_append]
      by_cases h4 : i < 4
      · rw [if_neg (by omega), put_at _ _ _ _ _ (by simp; omega), if_pos (by omega), List.getElem?_append_left (by rw [nums_len, le_len]; exact h4), le_nums h4]
        simp
      · rw [if_pos (by omega), List.getElem?_append_right (by rw [nums_len, le_len]; omega), nums_len, le_len, le_nums (by omega)]
    · rw [List.getElem?_eq_none (by rw [List.length_take]; omega), List.getElem?_eq_none (by rw [nums_len]; simp [le_len]; omega)]
  rw [h8, ← List.append_assoc, ← nums_append, List.take_append_of_le_length (by rw [nums_len]; simp [le_len]; unfold grO; omega), List.take_of_length_le (by rw [nums_len]; simp [le_len]; unfold grO; omega)]
theorem info1 : (Try.prog.info? 5).map (·.size) = some 1 := by kernel_rfl
theorem slI_kept0 {S : Nat → Prop} {k : IntKind} {w w' : World} {a : Option Addr} {n cap : Nat} {zs : List Int} (h : SlI k w a n cap zs) (hk : Kept S w w') (ha : ∀ x, a = some x → 0 < n → ¬ S x.block) : SlI k w' a n cap zs :=
  ⟨h.len, h.le, h.max, fun i hi => by
    obtain ⟨b, o, rfl, hc⟩ := h.cell i hi
    exact ⟨b, o, rfl, hk.cell hc (ha ⟨b, o, none⟩ rfl (by omega))⟩⟩
theorem put4_calls (w : World) (g : Nat) (zs : List Int) (o len c v : Nat) (hrow : RowI .u8 5 w g zs) (ho : o + len ≤ zs.length) (hk : 4 ≤ len) (hz : zs.length ≤ 9000000000000000000) (hv : v ≤ 9000000000000000000) :
    Calls Try.prog 83 #[.slice (some ⟨g, o, none⟩) len c, .int .i64 (v : Nat), .int .i64 4] w fun e w' => e = .returned (.tuple #[]) ∧ RowI .u8 5 w' g (putL zs o v 4) ∧ Kept (fun j => j = g) w w' :=
  put_calls w g zs o len c v 4 hrow ho hk hz hv (by decide)
/-- What the closure of Build captures, and what its row holds. -/
structure BI (w0 : World) (g pb pp : Nat) (d : List UInt8) (N : Nat) (w : World) (L : List (Nat × Nat × Nat)) : Prop where
  hb : w.heap[pb]? = some (.cells #[.slice (some ⟨g, 0, none⟩) (enO d N) (enO d N)] 25 (0, 0))
  hp : w.heap[pp]? = some (.cells #[.int .i64 8, .int .i64 (grO d : Nat), .int .i64 (smO d N : Nat), .int .i64 (mkO d N : Nat), .int .i64 (enO d N : Nat)] 138 (0, 0))
  row : ∃ zs, RowI .u8 5 w g zs ∧ RowT d N zs L
  kept : Kept (fun j => j = g) w0 w
set_option maxRecDepth 100000 in
set_option maxHeartbeats 1000000 in
theorem tell_build (w0 : World) (g pb pp : Nat) (hgb : pb ≠ g) (hgp : pp ≠ g) (d : List UInt8) (N : Nat) (hE : enO d N ≤ 1000000000) (w : World) (L : List (Nat × Nat × Nat)) (part i v : Nat) (hI : BI w0 g pb pp d N w L) (hv : Vt d N (part, i, v)) (hvb : v ≤ 1000000000) :
    Calls Try.prog 85 #[.int .i64 (part : Nat), .int .i64 (i : Nat), .int .i64 (v : Nat), .pointer (some ⟨pb, 0, none⟩), .pointer (some ⟨pp, 0, none⟩)] w fun e w' => e = .returned (.bool true) ∧ BI w0 g pb pp d N w' (L ++ [(part, i, v)]) := by
  obtain ⟨zs, hrow, hrt⟩ := hI.row
  have c0 := cell_of_row w pb 0 _ _ _ hI.hb
  have q1 := cell_of_row w pp 1 _ _ _ hI.hp
  have q2 := cell_of_row w pp 2 _ _ _ hI.hp
  have q3 := cell_of_row w pp 3 _ _ _ hI.hp
  have c0' : w.cell? ⟨pb, 0, none⟩ = some (.slice (some ⟨g, 0, none⟩) (enO d N) (enO d N)) := c0
  have q1' : w.cell? ⟨pp, 1, none⟩ = some (.int .i64 (grO d : Nat)) := q1
  have q2' : w.cell? ⟨pp, 2, none⟩ = some (.int .i64 (smO d N : Nat)) := q2
  have q3' : w.cell? ⟨pp, 3, none⟩ = some (.int .i64 (mkO d N : Nat)) := q3
  obtain ⟨w1, w2⟩ := wh_at hv
  have hput := hrt.put hv
  have hsz : szT (part, i, v) = if part = 256 then 2 else 4 := rfl
  have hpos : posT d N (part, i, v) = if part = 2048 then grO d + 4 * i else if part = 256 then smO d N + 2 * i else mkO d N + 4 * i := rfl
  have hpart : part = 2048 ∨ part = 256 ∨ part = 512 := by
    rcases hv with ⟨h, _⟩ | ⟨h, _⟩ | ⟨h, _⟩
    · exact .inl h
    · exact .inr (.inl h)
    · exact .inr (.inr h)
  have hcall := fun (o len c k : Nat) (h1 : o + len ≤ zs.length) (h2 : k ≤ len) (h3 : k ≤ 7) => put_calls w g zs o len c v k hrow h1 h2 (by have := hrt.len; omega) (by omega) h3
  have hfin : ∀ w', RowI .u8 5 w' g (putL zs (posT d N (part, i, v)) v (szT (part, i, v))) → Kept (fun j => j = g) w w' → BI w0 g pb pp d N w' (L ++ [(part, i, v)]) := fun w' h1 h2 =>
    ⟨(h2.block pb (lt_of_block hI.hb) hgb).trans hI.hb, (h2.block pp (lt_of_block hI.hp) hgp).trans hI.hp, ⟨_, h1, hput⟩, hI.kept.trans h2 (fun j hj => .inl hj)⟩
  have hlen := hrt.len
  have HC := Lib.hid hcall
  have HF := Lib.hid hfin
  have HLEN := Lib.hid hlen
  have HSZ := Lib.hid hsz
  have HPOS := Lib.hid hpos
  clear hcall hfin hlen hput hrt hrow hI c0 q1 q2 q3 w2 hv
  rcases hpart with rfl | rfl | rfl
  · have e1 : posT d N (2048, i, v) = grO d + 4 * i := HPOS.out
    have e2 : szT (2048, i, v) = 4 := HSZ.out
    rw [e1, e2] at w1
    have hc := HC.out (grO d + 4 * i) (enO d N - (grO d + 4 * i)) (enO d N - (grO d + 4 * i)) 4 (by rw [HLEN.out]; omega) (by omega) (by omega)
    rw [show ((4 : Nat) : Int) = 4 from rfl] at hc
    have hfin := HF.out
    rw [e1, e2] at hfin
    have HFF := Lib.hid hfin
    have HCC := Lib.hid hc
    clear hc hfin HF HC e1 e2 HPOS HSZ hsz
    go_enter Try.func85, Try.ntmps85
    go_wp2_with (go_at_call 83; (with_reducible refine HCC.out.mono ?_); rintro e w5 ⟨rfl, hr5, hk5⟩; (have HR5 := Lib.hid hr5); (have HK5 := Lib.hid hk5); clear hr5 hk5)
    go_ret
    exact ⟨rfl, HFF.out _ HR5.out HK5.out⟩
  · have e1 : posT d N (256, i, v) = smO d N + 2 * i := HPOS.out
    have e2 : szT (256, i, v) = 2 := HSZ.out
    rw [e1, e2] at w1
    have hc := HC.out (smO d N + 2 * i) (enO d N - (smO d N + 2 * i)) (enO d N - (smO d N + 2 * i)) 2 (by rw [HLEN.out]; omega) (by omega) (by omega)
    rw [show ((2 : Nat) : Int) = 2 from rfl] at hc
    have hfin := HF.out
    rw [e1, e2] at hfin
    have HFF := Lib.hid hfin
    have HCC := Lib.hid hc
    clear hc hfin HF HC e1 e2 HPOS HSZ hsz
    go_enter Try.func85, Try.ntmps85
    go_wp2_with (go_at_call 83; (with_reducible refine HCC.out.mono ?_); rintro e w5 ⟨rfl, hr5, hk5⟩; (have HR5 := Lib.hid hr5); (have HK5 := Lib.hid hk5); clear hr5 hk5)
    go_ret
    exact ⟨rfl, HFF.out _ HR5.out HK5.out⟩
  · have e1 : posT d N (512, i, v) = mkO d N + 4 * i := HPOS.out
    have e2 : szT (512, i, v) = 4 := HSZ.out
    rw [e1, e2] at w1
    have hc := HC.out (mkO d N + 4 * i) (enO d N - (mkO d N + 4 * i)) (enO d N - (mkO d N + 4 * i)) 4 (by rw [HLEN.out]; omega) (by omega) (by omega)
    rw [show ((4 : Nat) : Int) = 4 from rfl] at hc
    have hfin := HF.out
    rw [e1, e2] at hfin
    have HFF := Lib.hid hfin
    have HCC := Lib.hid hc
    clear hc hfin HF HC e1 e2 HPOS HSZ hsz
    go_enter Try.func85, Try.ntmps85
    go_wp2_with (go_at_call 83; (with_reducible refine HCC.out.mono ?_); rintro e w5 ⟨rfl, hr5, hk5⟩; (have HR5 := Lib.hid hr5); (have HK5 := Lib.hid hk5); clear hr5 hk5)
    go_ret
    exact ⟨rfl, HFF.out _ HR5.out HK5.out⟩
set_option maxRecDepth 100000 in
set_option maxHeartbeats 2000000 in
/-- Build of bits that are right. -/
theorem build_yes (w : World) (a : Option Addr) (n c : Nat) (d : List UInt8) (N : Nat) (hs : SlI .u8 w a n c (nums d)) (hl : d.length = (N + 7) / 8) (hp : padB d N = true) (hN : N ≤ 67108864) :
    Calls Try.prog 43 #[.slice a n c, .int .i64 (N : Nat)] w fun e w' => ∃ g, e = .returned (.tuple #[.slice (some ⟨g, 0, none⟩) (enO d N) (enO d N), .int .i64 0]) ∧ w.heap.size ≤ g ∧ RowI .u8 5 w' g (nums (whB d N)) ∧ Below w.heap.size w w' := by
  have hnl := hs.len
  rw [nums_len] at hnl
  subst hnl
  have hcn := cnt_le d N
  have hup := fun w => up_calls (N : Int) 8 w (by omega) (by omega) (by omega) (by omega)
  have hpd := fun w' (h : SlI .u8 w' a d.length c (nums d)) => padded_calls w' a d.length c d N h hl hN
  have hct := fun w' (h : SlI .u8 w' a d.length c (nums d)) => count_calls w' a d.length c d h (by omega)
  rw [pad_cnt hl hp (8 * d.length) (by omega)] at hct
  rw [hp] at hpd
  have hcut := fun w => cut_calls (N : Int) (cntB d N : Nat) w (by omega) (by omega) (by omega) (by omega)
  have hcv : cutV (N : Int) (cntB d N : Nat) = .agg #[.int .i64 8, .int .i64 (grO d : Nat), .int .i64 (smO d N : Nat), .int .i64 (mkO d N : Nat), .int .i64 (enO d N : Nat)] := by
    have e1 : (8 : Int) + ((N : Int) + 8 - 1) / 8 = (grO d : Nat) := by unfold grO; omega
    have e2 : (grO d : Int) + 4 * (((N : Int) + 2048 - 1) / 2048) = (smO d N : Nat) := by unfold smO; omega
    have e3 : (smO d N : Int) + 2 * (((N : Int) + 256 - 1) / 256) = (mkO d N : Nat) := by unfold mkO; omega
    have e4 : (mkO d N : Int) + 4 * (((cntB d N : Nat) + 512 - 1 : Int) / 512) = (enO d N : Nat) := by unfold enO; omega
    unfold cutV
    rw [e1, e2, e3, e4]
  rw [hcv] at hcut
  have hee : (((N : Int) + 8 - 1) / 8) = (d.length : Int) := by omega
  rw [hee] at hup
  have hE : enO d N ≤ 100000000 := by unfold enO mkO smO grO; omega
  have hdl : d.length ≤ 8388608 := by omega
  have HUP := Lib.hid hup
  have HPD := Lib.hid hpd
  have HCT := Lib.hid hct
  have HCUT := Lib.hid hcut
  have HS := Lib.hid hs
  have HL := Lib.hid hl
  have HP := Lib.hid hp
  clear hup hpd hct hcut hcv hee hs hl hp
  go_enter Try.func43, Try.ntmps43
  go_upto_region 11 with (first
    | (go_at_call 79; refine (HUP.out _).mono ?_; rintro e w1 ⟨rfl, rfl⟩)
    | (go_at_call 80; refine (HPD.out _ HS.out).mono ?_; rintro e w1 ⟨rfl, rfl⟩)
    | (go_at_call 81; refine (HCT.out _ HS.out).mono ?_; rintro e w1 ⟨rfl, rfl⟩)
    | (go_at_call 82; refine (HCUT.out _).mono ?_; rintro e w1 ⟨rfl, hb1⟩; (have HB1 := Lib.hid hb1); clear hb1))
  have hp2 : (w1.alloc (.cells #[.int .i64 8, .int .i64 (grO d : Nat), .int .i64 (smO d N : Nat), .int .i64 (mkO d N : Nat), .int .i64 (enO d N : Nat)] 138)).heap[w1.heap.size]? = some (.cells #[.int .i64 8, .int .i64 (grO d : Nat), .int .i64 (smO d N : Nat), .int .i64 (mkO d N : Nat), .int .i64 (enO d N : Nat)] 138 (0, 0)) := heap_alloc_new _ _
  have hb2 := HB1.out.alloc HB1.out.size (.cells #[.int .i64 8, .int .i64 (grO d : Nat), .int .i64 (smO d N : Nat), .int .i64 (mkO d N : Nat), .int .i64 (enO d N : Nat)] 138)
  have hpp : w.heap.size ≤ w1.heap.size := HB1.out.size
  generalize w1.alloc (.cells #[.int .i64 8, .int .i64 (grO d : Nat), .int .i64 (smO d N : Nat), .int .i64 (mkO d N : Nat), .int .i64 (enO d N : Nat)] 138) = w2 at hp2 hb2 ⊢
  generalize w1.heap.size = pp at hp2 hpp ⊢
  have q4 : w2.cell? ⟨pp, 4, none⟩ = some (.int .i64 (enO d N : Nat)) := cell_of_row w2 pp 4 _ _ _ hp2
  have HP2 := Lib.hid hp2
  have HB2 := Lib.hid hb2
  clear hp2 hb2 HB1
  go_upto_region 12 with (at_make; go_loud (refine wpList_mkJ rfl (.tmp 39) (.tmp 39) 25 rfl 5 (.int .u8 0) 1 Try.underlying25 Try.infoU8 rfl .i64 .i64 _ _ (enO d N) rfl rfl rfl rfl (by omega) (by omega) ?_; intro w3 hw3 hg3; (have HW3 := Lib.hid hw3); (have HG3 := Lib.hid hg3); clear hw3 hg3))
  have hg0 : w.heap.size ≤ w2.heap.size := HB2.out.size
  have hgg := HG3.out.size
  have hrow3 : RowI .u8 5 w3 w2.heap.size (List.replicate (enO d N) 0) := by
    have := HW3.out
    unfold RowI
    rw [this]; simp
  have hglt := hrow3.lt
  have hpplt := lt_of_block HP2.out
  have hb3 : Below w.heap.size w w3 := HB2.out.grown HG3.out HB2.out.size (fun j hj => by cases hj)
  have hp3 := (HG3.out.block pp hpplt (by simp)).trans HP2.out
  have hb4 := hb3.alloc hb3.size (.cells #[.slice (some ⟨w2.heap.size, 0, none⟩) (enO d N) (enO d N)] 25)
  have hrow4 : RowI .u8 5 (w3.alloc (.cells #[.slice (some ⟨w2.heap.size, 0, none⟩) (enO d N) (enO d N)] 25)) w2.heap.size (List.replicate (enO d N) 0) := (Below.heap_alloc w3 _ _ hglt).trans hrow3
  have hp4 := (Below.heap_alloc w3 (.cells #[.slice (some ⟨w2.heap.size, 0, none⟩) (enO d N) (enO d N)] 25) _ (lt_of_block hp3)).trans hp3
  have hbx4 : (w3.alloc (.cells #[.slice (some ⟨w2.heap.size, 0, none⟩) (enO d N) (enO d N)] 25)).heap[w3.heap.size]? = some (.cells #[.slice (some ⟨w2.heap.size, 0, none⟩) (enO d N) (enO d N)] 25 (0, 0)) := heap_alloc_new _ _
  have hne1 : w3.heap.size ≠ w2.heap.size := by omega
  have hne2 : pp ≠ w2.heap.size := by omega
  have hs4 := HS.out.keep (hb4)
  have hsz4 : w2.heap.size < (w3.alloc (.cells #[.slice (some ⟨w2.heap.size, 0, none⟩) (enO d N) (enO d N)] 25)).heap.size := by simp; omega
  generalize w3.alloc (.cells #[.slice (some ⟨w2.heap.size, 0, none⟩) (enO d N) (enO d N)] 25) = w4 at hb4 hrow4 hp4 hbx4 hs4 hsz4 ⊢
  clear hrow3 hglt hpplt hb3 hp3 hgg HW3 HG3 HB2 HP2 q4
  generalize w3.heap.size = pb at hbx4 hne1 ⊢
  generalize w2.heap.size = g at hbx4 hrow4 hne1 hne2 hg0 hsz4 ⊢
  have hblk : ∀ x, a = some x → 0 < d.length → ¬ x.block = g := fun x hx hp => by
    obtain ⟨b, o, e, hc⟩ := HS.out.cell 0 hp
    have hb : b < w.heap.size := block_lt_of_cell hc
    rw [hx] at e
    obtain rfl := Option.some.inj e
    show ¬ b = g
    omega
  have hE8 : 8 + d.length ≤ enO d N := by unfold enO mkO smO grO; omega
  have HB4 := Lib.hid hb4
  have HROW4 := Lib.hid hrow4
  have HP4 := Lib.hid hp4
  have HBX4 := Lib.hid hbx4
  have HS4 := Lib.hid hs4
  have HBLK := Lib.hid hblk
  have cb := cell_of_row w4 pb 0 _ _ _ hbx4
  have cb4 : w4.cell? ⟨pb, 0, none⟩ = some (.slice (some ⟨g, 0, none⟩) (enO d N) (enO d N)) := cb
  clear hb4 hrow4 hp4 hbx4 hs4 hblk cb
  go_upto_region 14 with (first
    | (go_at_call 83; (with_reducible refine (put4_calls w4 g _ 0 (enO d N) (enO d N) N HROW4.out (by simp) (by omega) (by simp; omega) (by omega)).mono ?_); rintro e w5 ⟨rfl, hr5, hk5⟩; (have HR5 := Lib.hid hr5); (have HK5 := Lib.hid hk5); (have cb5 := hk5.cell cb4 hne1); clear hr5 hk5)
    | (go_at_call 83; (with_reducible refine (put4_calls w5 g _ 4 (enO d N - 4) (enO d N - 4) (cntB d N) HR5.out (by rw [put_len]; simp; omega) (by omega) (by rw [put_len]; simp; omega) (by omega)).mono ?_); rintro e w6 ⟨rfl, hr6, hk6⟩; (have HR6 := Lib.hid hr6); (have HK6 := Lib.hid hk6); (have cb6 := hk6.cell cb5 hne1); clear hr6 hk6))
  have k46 := HK5.out.trans HK6.out (fun j hj => .inl hj)
  have hp6 := (k46.block pp (lt_of_block HP4.out) hne2).trans HP4.out
  have hbx6 := (k46.block pb (lt_of_block HBX4.out) hne1).trans HBX4.out
  have cp6 : w6.cell? ⟨pp, 0, none⟩ = some (.int .i64 8) := cell_of_row w6 pp 0 _ _ _ hp6
  have hs6 := slI_kept0 HS4.out k46 HBLK.out
  have hb6 := HB4.out.trans (k46.below (Nat.le_trans hg0 (Nat.le_of_lt hsz4)) (fun j hj => by subst hj; exact hg0))
  have HP6 := Lib.hid hp6
  have HBX6 := Lib.hid hbx6
  have HS6 := Lib.hid hs6
  have HB6 := Lib.hid hb6
  clear k46 hp6 hbx6 hs6 hb6 HP4 HBX4 HS4 HB4 HROW4 HK5 HK6 HR5 cb4 cb5 hsz4
  obtain ⟨b8, h8⟩ : ∃ b : Prop, (enO d N = 8) = b := ⟨_, rfl⟩
  rcases (show b8 = True ∨ b8 = False by by_cases h : enO d N = 8; exact .inl (h8.symm.trans (eq_true h)); exact .inr (h8.symm.trans (eq_false h))) with rfl | rfl
  all_goals
    go_upto_region 15 with (with_reducible refine wpList_copyK rfl (.tmp 51) (.tmp 52) 25 25 rfl 5 Try.underlying25 info1 _ _ _ _ _ _ rfl rfl .u8 g 8 _ 5 HR6.out (nums d) ?c1 ?c2 HS6.out ?c3 ?_)
    first | (case c1 => rw [nums_len]; show _ = min d.length _; omega) | skip
    first | (case c2 => intro hp; rw [nums_len] at hp; first | rfl | (exfalso; have := of_eq_true h8; omega)) | skip
    first | (case c3 => rw [put_len, put_len, nums_len]; simp; omega) | skip
    intro w7 hr7 hk7
    have HR7 := Lib.hid hr7
    have HK7 := Lib.hid hk7
    clear hr7 hk7
    have hp7 := (HK7.out.block pp (lt_of_block HP6.out) hne2).trans HP6.out
    have hbx7 := (HK7.out.block pb (lt_of_block HBX6.out) hne1).trans HBX6.out
    have hs7 := slI_kept0 HS6.out HK7.out HBLK.out
    have hgw : g < w6.heap.size := HR6.out.lt
    have hb7 := HB6.out.trans (HK7.out.below HB6.out.size (fun j hj => by subst hj; exact hg0))
    have hBI : BI w7 g pb pp d N w7 [] := ⟨hbx7, hp7, ⟨_, HR7.out, RowT.start (by simp [put_len, nums_len]; omega) (head_take hE8)⟩, Kept.refl _ _⟩
    have hdir := directory_calls 85 (.pointer (some ⟨pb, 0, none⟩)) (.pointer (some ⟨pp, 0, none⟩)) cf_build w7 a d.length c d N rfl HL.out HP.out hN (BI w7 g pb pp d N) hBI (fun w' L h => slI_kept0 hs7 h.kept HBLK.out) (fun w' L part i v h hv => tell_build w7 g pb pp hne1 hne2 d N (by omega) w' L part i v h hv (vt_le hv hN))
    have hmf : ∀ (fn : Fn) (first cap : Array Value) (w : World), (Instr.makeFunc fn first cap).run Try.prog w = .ok (.func fn first cap) w := fun _ _ _ _ => rfl
    have HD := Lib.hid hdir
    have HB7 := Lib.hid hb7
    have hgw7 : g < w7.heap.size := HR7.out.lt
    clear hp7 hbx7 hs7 hb7 hBI hdir
    go_wp2_with (go_at_call 84; (with_reducible refine HD.out.mono ?_); rintro e w8 ⟨rfl, L, hbi, hall⟩; (have HBI := Lib.hid hbi); (have HALL := Lib.hid hall); (have cb8 : w8.cell? ⟨pb, 0, none⟩ = some (.slice (some ⟨g, 0, none⟩) (enO d N) (enO d N)) := cell_of_row w8 pb 0 _ _ _ hbi.hb); clear hbi hall)
    go_ret2
    obtain ⟨zs, h1, h2⟩ := HBI.out.row
    obtain rfl := h2.all HALL.out
    exact ⟨g, rfl, hg0, h1, HB7.out.trans (HBI.out.kept.below HB7.out.size (fun j hj => by subst hj; exact hg0))⟩
end Go.Proofs.Ytgajpekolamjbaa
/- The document's bit, number, padded. -/
namespace Go.Tk
open Go Go.RowKit
theorem bit_and : ∀ y : Fin 256, ∀ j : Fin 8, (bits .and .u8 ((y.val : Int) / 2 ^ j.val) 1 == 1) = y.val.testBit j.val := by decide +kernel
theorem bit_mod : ∀ y : Fin 256, ∀ j : Fin 8, (((y.val : Int) / 2 ^ j.val) % 2 == 1) = y.val.testBit j.val := by decide +kernel
end Go.Tk
namespace Go.Proofs.Ytgajpekolamjbaa
open Go.RowKit Go.Tk
theorem bit_calls (w : World) (a : Option Addr) (n c : Nat) (d : List UInt8) (i : Nat) (h : SlI .u8 w a n c (nums d)) (hi : i / 8 < d.length) (hb : i ≤ 9000000000000000000) :
    Calls Try.prog 91 #[.slice a n c, .int .i64 (i : Nat)] w fun e w' => e = .returned (.bool (btB d i)) ∧ w = w' := by
  have hnl := h.len
  rw [nums_len] at hnl
  obtain ⟨b, o, rfl, hc⟩ := h.cell (i / 8) (by omega)
  rw [nums_getD d _ hi] at hc
  obtain ⟨y, hy⟩ : ∃ y : Nat, y = (d[i / 8]).toNat := ⟨_, rfl⟩
  rw [← hy] at hc
  have hy2 : y ≤ 255 := by have := UInt8.toNat_lt (d[i / 8]); omega
  have e1 := bit_and ⟨y, by omega⟩ ⟨i % 8, by omega⟩
  have e2 := bit_mod ⟨y, by omega⟩ ⟨i % 8, by omega⟩
  simp only at e1 e2
  have hres : btB d i = y.testBit (i % 8) := by
    unfold btB
    rw [hy, List.getD_eq_getElem?_getD, List.getElem?_eq_getElem hi]; rfl
  rw [hres]
  generalize y.testBit (i % 8) = r at e1 e2
  clear hres hy h
  go_enter Try.func91, Try.ntmps91
  go_wp2
  go_ret
  exact ⟨rfl, rfl⟩
set_option maxHeartbeats 1000000 in
theorem number_calls (w : World) (v k : Nat) (hv : v ≤ 1000000000000) (hk : k ≤ 8) :
    Calls Try.prog 90 #[.int .i64 (v : Nat), .int .i64 (k : Nat)] w fun e w' => ∃ x, e = .returned x ∧ Ow .u8 5 w.heap.size w' x (nums (leB v k)) ∧ Below w.heap.size w w' := by
  go_enter Try.func90, Try.ntmps90
  go_wp2
  go_loopw [5, 6] (fun ov iv wr => ∃ i : Nat, iv = .int .i64 (i : Nat) ∧ i ≤ k ∧ Ow .u8 5 w.heap.size wr ov (nums (leB v i)) ∧ Below w.heap.size w wr) (fun _ iv _ => k - (intOf iv).toNat)
  case atStart => exact ⟨0, rfl, Nat.zero_le _, Ow.nil _ _ _ _, Below.refl _ _⟩
  case round =>
    obtain ⟨i, rfl, hi, how, hb⟩ := hrel
    have HOW := Lib.hid how
    have HB := Lib.hid hb
    have hln : (nums (leB v i)).length = i := by rw [nums_len, le_len]
    have HLN := Lib.hid hln
    clear how hb hln
    by_cases hik : i < k
    · have hnx : nums (leB v i) ++ [((v / 256 ^ i % 256 : Nat) : Int)] = nums (leB v (i + 1)) := by
        have : leB v (i + 1) = leB v i ++ [UInt8.ofNat (v / 256 ^ i % 256)] := by
          apply List.ext_getElem?
          intro j
          by_cases hj : j < i
          · rw [List.getElem?_append_left (by rw [le_len]; exact hj), le_get _ _ _ (by omega), le_get _ _ _ hj]
          · by_cases hj2 : j = i
            · subst hj2
              rw [List.getElem?_append_right (by rw [le_len]; exact Nat.le_refl _), le_len, Nat.sub_self, le_get _ _ _ (by omega)]; rfl
            · rw [List.getElem?_eq_none (by rw [le_len]; omega), List.getElem?_eq_none (by simp [le_len]; omega)]
        rw [this, nums_append]
        simp [nums]
      have HNX := Lib.hid hnx
      clear hnx
      have hv2 := le_val v i
      go_wp2_with (at_builtin; go_loud (refine wpList_appJ rfl (.tmp 12) (.tmp 18) _ rfl .u8 w.heap.size 5 _ 1 Try.underlying25 Try.infoU8 rfl _ _ rfl (HOW.out.alloc _) _ 1 1 _ rfl (SlI.one _ _ _ _) (by simp) (by have := HLN.out; omega) (by have := HLN.out; omega) (by have := HB.out.size; simp; omega) ?_; intro v' w' ow' hg' st'; (have HO2 := Lib.hid ow'); (have HB2 := Lib.hid ((HB.out.alloc HB.out.size _).grown hg' (by have := HB.out.size; simp; omega) (fun j hj => (HOW.out.lt j hj).1))); clear ow' hg' st'))
      go_roundw
      case rel => exact ⟨i + 1, by go_num, by omega, by rw [← HNX.out]; exact HO2.out, HB2.out⟩
      case measure => simp [intOf]; omega
    · obtain rfl : i = k := by omega
      go_wp2
      go_ret
      exact ⟨_, rfl, HOW.out, HB.out⟩
end Go.Proofs.Ytgajpekolamjbaa
