/- RkDir RkB RkR, laid as one. -/
import Derived.Test.YtgajpekolamjbaaDoorRkW
import Derived.Deep.CutBlock
import Derived.Test.YtgajpekolamjbaaDoorCpK
set_option linter.unusedVariables false
set_option linter.unusedSimpArgs false
/- directory: tells the numbers of the directories, each as it must be, and all of them. -/
namespace Go.Proofs.YtgajpekolamjbaaDoor
open Go.RowKit Go.Tk
set_option maxRecDepth 100000 in
set_option maxHeartbeats 2000000 in
theorem directory_calls (F : FuncId) (x1 x2 : Value) (hcf : ∀ (p q r : Int) (w : World), (callFunc F #[.int .i64 p, .int .i64 q, .int .i64 r, x1, x2]).run Tryd.prog w = .ok (.enter F #[.int .i64 p, .int .i64 q, .int .i64 r, x1, x2]) w) (w : World) (a : Option Addr) (n c : Nat) (d : List UInt8) (N : Nat) (hn : n = d.length) (hl : d.length = (N + 7) / 8) (hp : padB d N = true) (hN : N ≤ 67108864)
    (I : World → List (Nat × Nat × Nat) → Prop) (hI0 : I w []) (hsl : ∀ w' L, I w' L → SlI .u8 w' a n c (nums d))
    (hT : ∀ w' L part i v, I w' L → Vt d N (part, i, v) → Calls Tryd.prog F #[.int .i64 (part : Nat), .int .i64 (i : Nat), .int .i64 (v : Nat), x1, x2] w' fun e w'' => e = .returned (.bool true) ∧ I w'' (L ++ [(part, i, v)])) :
    Calls Tryd.prog 65 #[.slice a n c, .int .i64 (N : Nat), .func (.func F) #[] #[x1, x2]] w fun e w' => e = .returned (.bool true) ∧ ∃ L, I w' L ∧ ∀ t, Vt d N t → t ∈ L := by
  have HSL := Lib.hid hsl
  have HT := Lib.hid hT
  have HI0 := Lib.hid hI0
  have HL := Lib.hid hl
  have HP := Lib.hid hp
  have HNN := Lib.hid hn
  clear hsl hT hI0 hl hp hn
  go_enter Tryd.func65, Tryd.ntmps65
  go_wp2
  go_loopw [7, 8, 9] (fun ov av tv wr => ∃ (q A m ah : Nat) (L : List (Nat × Nat × Nat)), tv = .int .i64 (A : Nat) ∧ A = 8 * q ∧ q ≤ n ∧ ov = .int .i64 (m : Nat) ∧ m = cntB d A ∧ av = .int .i64 (ah : Nat) ∧ (¬ A % 2048 = 0 → ah = cntB d (A / 2048 * 2048)) ∧ I wr L ∧ CovG d N L A ∧ CovS d N L A ∧ CovM d N L (cntB d A)) (fun _ _ tv _ => N + 8 - (intOf tv).toNat)
  case atStart => exact ⟨0, 0, 0, 0, [], rfl, rfl, Nat.zero_le _, rfl, rfl, rfl, fun h => absurd rfl h, HI0.out, fun j v h => by omega, fun j v h => by omega, fun j v h => by simp [cntB] at h⟩
  case round =>
    obtain ⟨q, A, m, ah, L, rfl, hA, hq, rfl, hm, rfl, hah, hI, hG, hS, hM⟩ := hrel
    by_cases hAN : A < N
    · have hqn : q < n := by have := HL.out; have := HNN.out; omega
      have hml : m ≤ A := by rw [hm]; exact cnt_le d A
      have hI' := Lib.hid hI
      have HG := Lib.hid hG
      have HS := Lib.hid hS
      have HM := Lib.hid hM
      have HA := Lib.hid hA
      have HMM := Lib.hid hm
      have HAH := Lib.hid hah
      clear hI hG hS hM hA hm hah
      by_cases g0 : A % 2048 = 0
      · have s0 : A % 256 = 0 := by omega
        have e1 : ((A : Int) % 2048 == 0) = true := by simp; omega
        have e2 : ((A : Int) % 256 == 0) = true := by simp; omega
        have vg : (grL d N)[A / 2048]? = some m := by rw [gr_get d _ _ (by omega), HMM.out, show A / 2048 * 2048 = A by omega]
        have vs : (smL d N)[A / 256]? = some 0 := by rw [sm_get d _ _ (by omega), show A / 256 * 256 = A by omega, show A / 256 / 8 * 2048 = A by omega, Nat.sub_self]
        have h1 := HT.out wr L 2048 (A / 2048) m hI'.out (.inl ⟨rfl, vg⟩)
        have h2 := fun w1 h => HT.out w1 (L ++ [(2048, A / 2048, m)]) 256 (A / 256) 0 h (.inr (.inl ⟨rfl, vs⟩))
        rw [Int.natCast_ediv, show ((2048 : Nat) : Int) = 2048 from rfl] at h1
        simp only [Int.natCast_ediv, show ((256 : Nat) : Int) = 256 from rfl, show ((0 : Nat) : Int) = 0 from rfl] at h2
        have hG2 := HG.out.step g0 vg
        have hG3 := hG2.app (256, A / 256, 0)
        have hS3 := (HS.out.app (2048, A / 2048, m)).step s0 vs
        have hM3 := (HM.out.app (2048, A / 2048, m)).app (256, A / 256, 0)
        have H1 := Lib.hid h1
        have H2 := Lib.hid h2
        have HG3 := Lib.hid hG3
        have HS3 := Lib.hid hS3
        have HM3 := Lib.hid hM3
        have G0 := Lib.hid g0
        clear h1 h2 vg vs g0 s0 hG2 hG3 hS3 hM3
        go_upto_region 11 with (first
          | ((with_reducible refine H1.out.mono ?_); rintro e w1 ⟨rfl, hi1⟩; (have HI1 := Lib.hid hi1); clear hi1)
          | ((with_reducible refine (H2.out _ HI1.out).mono ?_); rintro e w2 ⟨rfl, hi2⟩; (have HI2 := Lib.hid hi2); clear hi2))
        have HI3 := HI2
        clear e1 e2 H1 H2 HI1 HI2
        have hsc := HSL.out w2 (L ++ [(2048, A / 2048, m)] ++ [(256, A / 256, 0)]) HI3.out
        have hA8 : A / 8 = q := by have := HA.out; omega
        obtain ⟨b, o, rfl, hc⟩ := hsc.cell (A / 8) (by omega)
        have hlq : q < d.length := by have := HNN.out; omega
        obtain ⟨y, hy⟩ : ∃ y : Nat, y = (d.getD q 0).toNat := ⟨_, rfl⟩
        have hyv : (nums d).getD (A / 8) 0 = (y : Int) := by rw [hA8, nums_getD d q hlq, hy, List.getD_eq_getElem?_getD, List.getElem?_eq_getElem hlq]; rfl
        rw [hyv] at hc
        have hy255 : y ≤ 255 := by rw [hy]; have := UInt8.toNat_lt (d.getD q 0); omega
        have hbt : ∀ j, j < 8 → btB d (A + j) = y.testBit j := fun j hj => by rw [hy, HA.out]; exact bt_at d q j hj
        have HBT := Lib.hid hbt
        have hA8n : A / 8 < n := by omega
        clear hsc hy hyv hbt hA8
        go_wp2_with fail
        go_loopw [7, 10] (fun ov xv wr => ∃ (v m' X : Nat) (L' : List (Nat × Nat × Nat)), v ≤ 8 ∧ xv = .int .u8 (X : Nat) ∧ X = clrB y v ∧ ov = .int .i64 (m' : Nat) ∧ m' = cntB d (A + v) ∧ I wr L' ∧ CovG d N L' (A + 8) ∧ CovS d N L' (A + 8) ∧ CovM d N L' m') (fun _ xv _ => (intOf xv).toNat)
        case atStart => exact ⟨0, m, y, _, by omega, rfl, by simp [clrB], rfl, HMM.out, HI3.out, HG3.out, HS3.out, cov_at HMM.out HM3.out⟩
        case round =>
          obtain ⟨v, m', X, L', hv8, rfl, hX, rfl, hm', hi', hg', hs', hmm'⟩ := hrel
          unfold clrB at hX
          have hml' : m' ≤ A + v := by rw [hm']; exact cnt_le d _
          have HG4 := Lib.hid hg'
          have HS4 := Lib.hid hs'
          have HM4 := Lib.hid hmm'
          have HI4 := Lib.hid hi'
          clear HG3 HS3 HM3 HI3 hg' hs' hmm' hi'
          by_cases hx : X = 0
          · have hend := byte_end ⟨y, by omega⟩ ⟨v, by omega⟩ (by rw [hX] at hx; exact hx)
            have hce : cntB d (A + 8) = m' := by
              have := cnt_zero d (A + v) (8 - v) (fun j hj => by rw [Nat.add_assoc, HBT.out (v + j) (by omega)]; exact hend ⟨v + j, by omega⟩ (by simp))
              rw [show A + v + (8 - v) = A + 8 by omega] at this
              rw [this, hm']
            have HCE := Lib.hid hce
            clear hend hce hm' hX
            subst hx
            go_wp2_with fail
            go_roundw
            case rel => exact ⟨q + 1, A + 8, m', m, L', by go_num, by have := HA.out; omega, by omega, rfl, HCE.out.symm, rfl, fun h => by rw [HMM.out, show (A + 8) / 2048 * 2048 = A by have := G0.out; omega], HI4.out, HG4.out, HS4.out, by rw [HCE.out]; exact HM4.out⟩
            case measure => simp [intOf]; omega
          · obtain ⟨t, ht⟩ : ∃ t, t = Lib.trailingZeros8 X := ⟨_, rfl⟩
            obtain ⟨b1, b2, b3, b4, b5⟩ := byte_step ⟨y, by omega⟩ ⟨v, by omega⟩ (by rw [hX] at hx; exact hx)
            simp only [← hX, ← ht] at b1 b2 b3 b4 b5
            have hX255 : X ≤ 255 := by rw [hX]; exact Nat.le_trans (Nat.div_mul_le_self _ _) hy255
            have hand := and_pred ⟨X, by omega⟩ hx
            simp only [b5] at hand
            have hlt2 : y / 2 ^ (t + 1) * 2 ^ (t + 1) < X := by rw [← b5]; exact Nat.lt_of_le_of_lt Nat.and_le_right (by omega)
            obtain ⟨X2, hX2⟩ : ∃ X2, X2 = y / 2 ^ (t + 1) * 2 ^ (t + 1) := ⟨_, rfl⟩
            rw [← hX2] at hand hlt2
            have hct : cntB d (A + t) = m' := by
              have := cnt_zero d (A + v) (t - v) (fun j hj => by rw [Nat.add_assoc, HBT.out (v + j) (by omega)]; exact b4 ⟨v + j, by omega⟩ (by simp) (by simp only; omega))
              rw [show A + v + (t - v) = A + t by omega] at this
              rw [this, hm']
            have hbit : btB d (A + t) = true := by rw [HBT.out t b2]; exact b3
            have hct1 : cntB d (A + (t + 1)) = m' + 1 := by rw [← Nat.add_assoc]; simp only [cntB]; rw [if_pos hbit, hct]
            have hAt : A + t < N := by
              by_cases h : N ≤ A + t
              · rw [pad_bits HL.out HP.out (A + t) h] at hbit; exact absurd hbit (by decide)
              · omega
            have htz := fun w => Tryd.bits_TrailingZeros8 (X : Int) w (by omega) (by omega)
            rw [Int.toNat_natCast, ← ht] at htz
            have HTZ := Lib.hid htz
            have HC1 := Lib.hid hct1
            have HX2 := Lib.hid hX2
            have hmN : m' ≤ 67108864 := by omega
            have ht8 : t + 1 ≤ 8 := by omega
            clear hm' hX ht b1 b2 b3 b4 b5 htz hct1 hX2
            have hxI : ¬ (X : Int) = 0 := by omega
            by_cases m0 : m' % 512 = 0
            · have e3 : ((m' : Int) % 512 == 0) = true := by simp; omega
              have vm : (mkL d N)[m' / 512]? = some (A + t) := by
                have := mk_get d N (A + t) hAt hbit (by rw [hct]; exact m0)
                rw [hct] at this; exact this
              have h5 := fun w1 h => HT.out w1 L' 512 (m' / 512) (A + t) h (.inr (.inr ⟨rfl, vm⟩))
              simp only [Int.natCast_ediv, Int.natCast_add, show ((512 : Nat) : Int) = 512 from rfl] at h5
              have hG5 := HG4.out.app (512, m' / 512, A + t)
              have hS5 := HS4.out.app (512, m' / 512, A + t)
              have hM5 := HM4.out.step m0 vm
              have H5 := Lib.hid h5
              have HG5 := Lib.hid hG5
              have HS5 := Lib.hid hS5
              have HM5 := Lib.hid hM5
              clear h5 vm hG5 hS5 hM5 hct hbit m0
              go_wp2_with (first
                | (go_at_call 75; refine (HTZ.out _).mono ?_; rintro e w5 ⟨rfl, rfl⟩)
                | ((with_reducible refine (H5.out _ HI4.out).mono ?_); rintro e w6 ⟨rfl, hi6⟩; (have HI6 := Lib.hid hi6); clear hi6))
              go_roundw
              case rel => exact ⟨t + 1, m' + 1, X2, _, ht8, rfl, HX2.out, by go_num, HC1.out.symm, HI6.out, HG5.out, HS5.out, HM5.out⟩
              case measure => simp [intOf]; omega
            · have e3 : ((m' : Int) % 512 == 0) = false := by simp; omega
              have hM5 := HM4.out.skip m0
              have HM5 := Lib.hid hM5
              clear hM5 hct hbit m0
              go_wp2_with fail
              go_roundw
              case rel => exact ⟨t + 1, m' + 1, X2, _, ht8, rfl, HX2.out, by go_num, HC1.out.symm, HI4.out, HG4.out, HS4.out, HM5.out⟩
              case measure => simp [intOf]; omega
      · have e1 : ((A : Int) % 2048 == 0) = false := by simp; omega
        have ha := HAH.out g0
        have G0 := Lib.hid g0
        by_cases s0 : A % 256 = 0
        · have e2 : ((A : Int) % 256 == 0) = true := by simp; omega
          have vs : (smL d N)[A / 256]? = some (m - ah) := by rw [sm_get d _ _ (by omega), show A / 256 * 256 = A by omega, show A / 256 / 8 * 2048 = A / 2048 * 2048 by omega, HMM.out, ha]
          have hle : ah ≤ m := by rw [HMM.out, ha]; exact cnt_mono d (by omega)
          have h2 := HT.out wr L 256 (A / 256) (m - ah) hI'.out (.inr (.inl ⟨rfl, vs⟩))
          rw [Int.natCast_ediv, Int.natCast_sub hle, show ((256 : Nat) : Int) = 256 from rfl] at h2
          have hG3 := (HG.out.skip (by have := HA.out; omega) g0).app (256, A / 256, m - ah)
          have hS3 := HS.out.step s0 vs
          have hM3 := HM.out.app (256, A / 256, m - ah)
          have H2 := Lib.hid h2
          have HG3 := Lib.hid hG3
          have HS3 := Lib.hid hS3
          have HM3 := Lib.hid hM3
          clear h2 vs g0 s0 hG3 hS3 hM3 ha
          go_upto_region 11 with ((with_reducible refine H2.out.mono ?_); rintro e w2 ⟨rfl, hi2⟩; (have HI3 := Lib.hid hi2); clear hi2)
          clear e1 e2 H2 hle
          have hsc := HSL.out w2 (L ++ [(256, A / 256, m - ah)]) HI3.out
          have hA8 : A / 8 = q := by have := HA.out; omega
          obtain ⟨b, o, rfl, hc⟩ := hsc.cell (A / 8) (by omega)
          have hlq : q < d.length := by have := HNN.out; omega
          obtain ⟨y, hy⟩ : ∃ y : Nat, y = (d.getD q 0).toNat := ⟨_, rfl⟩
          have hyv : (nums d).getD (A / 8) 0 = (y : Int) := by rw [hA8, nums_getD d q hlq, hy, List.getD_eq_getElem?_getD, List.getElem?_eq_getElem hlq]; rfl
          rw [hyv] at hc
          have hy255 : y ≤ 255 := by rw [hy]; have := UInt8.toNat_lt (d.getD q 0); omega
          have hbt : ∀ j, j < 8 → btB d (A + j) = y.testBit j := fun j hj => by rw [hy, HA.out]; exact bt_at d q j hj
          have HBT := Lib.hid hbt
          have hA8n : A / 8 < n := by omega
          clear hsc hy hyv hbt hA8
          go_wp2_with fail
          go_loopw [7, 10] (fun ov xv wr => ∃ (v m' X : Nat) (L' : List (Nat × Nat × Nat)), v ≤ 8 ∧ xv = .int .u8 (X : Nat) ∧ X = clrB y v ∧ ov = .int .i64 (m' : Nat) ∧ m' = cntB d (A + v) ∧ I wr L' ∧ CovG d N L' (A + 8) ∧ CovS d N L' (A + 8) ∧ CovM d N L' m') (fun _ xv _ => (intOf xv).toNat)
          case atStart => exact ⟨0, m, y, _, by omega, rfl, by simp [clrB], rfl, HMM.out, HI3.out, HG3.out, HS3.out, cov_at HMM.out HM3.out⟩
          case round =>
            obtain ⟨v, m', X, L', hv8, rfl, hX, rfl, hm', hi', hg', hs', hmm'⟩ := hrel
            unfold clrB at hX
            have hml' : m' ≤ A + v := by rw [hm']; exact cnt_le d _
            have HG4 := Lib.hid hg'
            have HS4 := Lib.hid hs'
            have HM4 := Lib.hid hmm'
            have HI4 := Lib.hid hi'
            clear HG3 HS3 HM3 HI3 hg' hs' hmm' hi'
            by_cases hx : X = 0
            · have hend := byte_end ⟨y, by omega⟩ ⟨v, by omega⟩ (by rw [hX] at hx; exact hx)
              have hce : cntB d (A + 8) = m' := by
                have := cnt_zero d (A + v) (8 - v) (fun j hj => by rw [Nat.add_assoc, HBT.out (v + j) (by omega)]; exact hend ⟨v + j, by omega⟩ (by simp))
                rw [show A + v + (8 - v) = A + 8 by omega] at this
                rw [this, hm']
              have HCE := Lib.hid hce
              clear hend hce hm' hX
              subst hx
              go_wp2_with fail
              go_roundw
              case rel => exact ⟨q + 1, A + 8, m', ah, L', by go_num, by have := HA.out; omega, by omega, rfl, HCE.out.symm, rfl, fun h => by rw [show (A + 8) / 2048 * 2048 = A / 2048 * 2048 by have := HA.out; omega]; exact HAH.out G0.out, HI4.out, HG4.out, HS4.out, by rw [HCE.out]; exact HM4.out⟩
              case measure => simp [intOf]; omega
            · obtain ⟨t, ht⟩ : ∃ t, t = Lib.trailingZeros8 X := ⟨_, rfl⟩
              obtain ⟨b1, b2, b3, b4, b5⟩ := byte_step ⟨y, by omega⟩ ⟨v, by omega⟩ (by rw [hX] at hx; exact hx)
              simp only [← hX, ← ht] at b1 b2 b3 b4 b5
              have hX255 : X ≤ 255 := by rw [hX]; exact Nat.le_trans (Nat.div_mul_le_self _ _) hy255
              have hand := and_pred ⟨X, by omega⟩ hx
              simp only [b5] at hand
              have hlt2 : y / 2 ^ (t + 1) * 2 ^ (t + 1) < X := by rw [← b5]; exact Nat.lt_of_le_of_lt Nat.and_le_right (by omega)
              obtain ⟨X2, hX2⟩ : ∃ X2, X2 = y / 2 ^ (t + 1) * 2 ^ (t + 1) := ⟨_, rfl⟩
              rw [← hX2] at hand hlt2
              have hct : cntB d (A + t) = m' := by
                have := cnt_zero d (A + v) (t - v) (fun j hj => by rw [Nat.add_assoc, HBT.out (v + j) (by omega)]; exact b4 ⟨v + j, by omega⟩ (by simp) (by simp only; omega))
                rw [show A + v + (t - v) = A + t by omega] at this
                rw [this, hm']
              have hbit : btB d (A + t) = true := by rw [HBT.out t b2]; exact b3
              have hct1 : cntB d (A + (t + 1)) = m' + 1 := by rw [← Nat.add_assoc]; simp only [cntB]; rw [if_pos hbit, hct]
              have hAt : A + t < N := by
                by_cases h : N ≤ A + t
                · rw [pad_bits HL.out HP.out (A + t) h] at hbit; exact absurd hbit (by decide)
                · omega
              have htz := fun w => Tryd.bits_TrailingZeros8 (X : Int) w (by omega) (by omega)
              rw [Int.toNat_natCast, ← ht] at htz
              have HTZ := Lib.hid htz
              have HC1 := Lib.hid hct1
              have HX2 := Lib.hid hX2
              have hmN : m' ≤ 67108864 := by omega
              have ht8 : t + 1 ≤ 8 := by omega
              clear hm' hX ht b1 b2 b3 b4 b5 htz hct1 hX2
              have hxI : ¬ (X : Int) = 0 := by omega
              by_cases m0 : m' % 512 = 0
              · have e3 : ((m' : Int) % 512 == 0) = true := by simp; omega
                have vm : (mkL d N)[m' / 512]? = some (A + t) := by
                  have := mk_get d N (A + t) hAt hbit (by rw [hct]; exact m0)
                  rw [hct] at this; exact this
                have h5 := fun w1 h => HT.out w1 L' 512 (m' / 512) (A + t) h (.inr (.inr ⟨rfl, vm⟩))
                simp only [Int.natCast_ediv, Int.natCast_add, show ((512 : Nat) : Int) = 512 from rfl] at h5
                have hG5 := HG4.out.app (512, m' / 512, A + t)
                have hS5 := HS4.out.app (512, m' / 512, A + t)
                have hM5 := HM4.out.step m0 vm
                have H5 := Lib.hid h5
                have HG5 := Lib.hid hG5
                have HS5 := Lib.hid hS5
                have HM5 := Lib.hid hM5
                clear h5 vm hG5 hS5 hM5 hct hbit m0
                go_wp2_with (first
                  | (go_at_call 75; refine (HTZ.out _).mono ?_; rintro e w5 ⟨rfl, rfl⟩)
                  | ((with_reducible refine (H5.out _ HI4.out).mono ?_); rintro e w6 ⟨rfl, hi6⟩; (have HI6 := Lib.hid hi6); clear hi6))
                go_roundw
                case rel => exact ⟨t + 1, m' + 1, X2, _, ht8, rfl, HX2.out, by go_num, HC1.out.symm, HI6.out, HG5.out, HS5.out, HM5.out⟩
                case measure => simp [intOf]; omega
              · have e3 : ((m' : Int) % 512 == 0) = false := by simp; omega
                have hM5 := HM4.out.skip m0
                have HM5 := Lib.hid hM5
                clear hM5 hct hbit m0
                go_wp2_with fail
                go_roundw
                case rel => exact ⟨t + 1, m' + 1, X2, _, ht8, rfl, HX2.out, by go_num, HC1.out.symm, HI4.out, HG4.out, HS4.out, HM5.out⟩
                case measure => simp [intOf]; omega
        · have e2 : ((A : Int) % 256 == 0) = false := by simp; omega
          have hG3 := HG.out.skip (by have := HA.out; omega) g0
          have hS3 := HS.out.skip (by have := HA.out; omega) s0
          have HG3 := Lib.hid hG3
          have HS3 := Lib.hid hS3
          have HM3 := HM
          have HI3 := hI'
          clear g0 s0 hG3 hS3 ha
          go_upto_region 11 with fail
          clear e1 e2
          have hsc := HSL.out wr L HI3.out
          have hA8 : A / 8 = q := by have := HA.out; omega
          obtain ⟨b, o, rfl, hc⟩ := hsc.cell (A / 8) (by omega)
          have hlq : q < d.length := by have := HNN.out; omega
          obtain ⟨y, hy⟩ : ∃ y : Nat, y = (d.getD q 0).toNat := ⟨_, rfl⟩
          have hyv : (nums d).getD (A / 8) 0 = (y : Int) := by rw [hA8, nums_getD d q hlq, hy, List.getD_eq_getElem?_getD, List.getElem?_eq_getElem hlq]; rfl
          rw [hyv] at hc
          have hy255 : y ≤ 255 := by rw [hy]; have := UInt8.toNat_lt (d.getD q 0); omega
          have hbt : ∀ j, j < 8 → btB d (A + j) = y.testBit j := fun j hj => by rw [hy, HA.out]; exact bt_at d q j hj
          have HBT := Lib.hid hbt
          have hA8n : A / 8 < n := by omega
          clear hsc hy hyv hbt hA8
          go_wp2_with fail
          go_loopw [7, 10] (fun ov xv wr => ∃ (v m' X : Nat) (L' : List (Nat × Nat × Nat)), v ≤ 8 ∧ xv = .int .u8 (X : Nat) ∧ X = clrB y v ∧ ov = .int .i64 (m' : Nat) ∧ m' = cntB d (A + v) ∧ I wr L' ∧ CovG d N L' (A + 8) ∧ CovS d N L' (A + 8) ∧ CovM d N L' m') (fun _ xv _ => (intOf xv).toNat)
          case atStart => exact ⟨0, m, y, _, by omega, rfl, by simp [clrB], rfl, HMM.out, HI3.out, HG3.out, HS3.out, cov_at HMM.out HM3.out⟩
          case round =>
            obtain ⟨v, m', X, L', hv8, rfl, hX, rfl, hm', hi', hg', hs', hmm'⟩ := hrel
            unfold clrB at hX
            have hml' : m' ≤ A + v := by rw [hm']; exact cnt_le d _
            have HG4 := Lib.hid hg'
            have HS4 := Lib.hid hs'
            have HM4 := Lib.hid hmm'
            have HI4 := Lib.hid hi'
            clear HG3 HS3 HM3 HI3 hg' hs' hmm' hi'
            by_cases hx : X = 0
            · have hend := byte_end ⟨y, by omega⟩ ⟨v, by omega⟩ (by rw [hX] at hx; exact hx)
              have hce : cntB d (A + 8) = m' := by
                have := cnt_zero d (A + v) (8 - v) (fun j hj => by rw [Nat.add_assoc, HBT.out (v + j) (by omega)]; exact hend ⟨v + j, by omega⟩ (by simp))
                rw [show A + v + (8 - v) = A + 8 by omega] at this
                rw [this, hm']
              have HCE := Lib.hid hce
              clear hend hce hm' hX
              subst hx
              go_wp2_with fail
              go_roundw
              case rel => exact ⟨q + 1, A + 8, m', ah, L', by go_num, by have := HA.out; omega, by omega, rfl, HCE.out.symm, rfl, fun h => by rw [show (A + 8) / 2048 * 2048 = A / 2048 * 2048 by have := HA.out; omega]; exact HAH.out G0.out, HI4.out, HG4.out, HS4.out, by rw [HCE.out]; exact HM4.out⟩
              case measure => simp [intOf]; omega
            · obtain ⟨t, ht⟩ : ∃ t, t = Lib.trailingZeros8 X := ⟨_, rfl⟩
              obtain ⟨b1, b2, b3, b4, b5⟩ := byte_step ⟨y, by omega⟩ ⟨v, by omega⟩ (by rw [hX] at hx; exact hx)
              simp only [← hX, ← ht] at b1 b2 b3 b4 b5
              have hX255 : X ≤ 255 := by rw [hX]; exact Nat.le_trans (Nat.div_mul_le_self _ _) hy255
              have hand := and_pred ⟨X, by omega⟩ hx
              simp only [b5] at hand
              have hlt2 : y / 2 ^ (t + 1) * 2 ^ (t + 1) < X := by rw [← b5]; exact Nat.lt_of_le_of_lt Nat.and_le_right (by omega)
              obtain ⟨X2, hX2⟩ : ∃ X2, X2 = y / 2 ^ (t + 1) * 2 ^ (t + 1) := ⟨_, rfl⟩
              rw [← hX2] at hand hlt2
              have hct : cntB d (A + t) = m' := by
                have := cnt_zero d (A + v) (t - v) (fun j hj => by rw [Nat.add_assoc, HBT.out (v + j) (by omega)]; exact b4 ⟨v + j, by omega⟩ (by simp) (by simp only; omega))
                rw [show A + v + (t - v) = A + t by omega] at this
                rw [this, hm']
              have hbit : btB d (A + t) = true := by rw [HBT.out t b2]; exact b3
              have hct1 : cntB d (A + (t + 1)) = m' + 1 := by rw [← Nat.add_assoc]; simp only [cntB]; rw [if_pos hbit, hct]
              have hAt : A + t < N := by
                by_cases h : N ≤ A + t
                · rw [pad_bits HL.out HP.out (A + t) h] at hbit; exact absurd hbit (by decide)
                · omega
              have htz := fun w => Tryd.bits_TrailingZeros8 (X : Int) w (by omega) (by omega)
              rw [Int.toNat_natCast, ← ht] at htz
              have HTZ := Lib.hid htz
              have HC1 := Lib.hid hct1
              have HX2 := Lib.hid hX2
              have hmN : m' ≤ 67108864 := by omega
              have ht8 : t + 1 ≤ 8 := by omega
              clear hm' hX ht b1 b2 b3 b4 b5 htz hct1 hX2
              have hxI : ¬ (X : Int) = 0 := by omega
              by_cases m0 : m' % 512 = 0
              · have e3 : ((m' : Int) % 512 == 0) = true := by simp; omega
                have vm : (mkL d N)[m' / 512]? = some (A + t) := by
                  have := mk_get d N (A + t) hAt hbit (by rw [hct]; exact m0)
                  rw [hct] at this; exact this
                have h5 := fun w1 h => HT.out w1 L' 512 (m' / 512) (A + t) h (.inr (.inr ⟨rfl, vm⟩))
                simp only [Int.natCast_ediv, Int.natCast_add, show ((512 : Nat) : Int) = 512 from rfl] at h5
                have hG5 := HG4.out.app (512, m' / 512, A + t)
                have hS5 := HS4.out.app (512, m' / 512, A + t)
                have hM5 := HM4.out.step m0 vm
                have H5 := Lib.hid h5
                have HG5 := Lib.hid hG5
                have HS5 := Lib.hid hS5
                have HM5 := Lib.hid hM5
                clear h5 vm hG5 hS5 hM5 hct hbit m0
                go_wp2_with (first
                  | (go_at_call 75; refine (HTZ.out _).mono ?_; rintro e w5 ⟨rfl, rfl⟩)
                  | ((with_reducible refine (H5.out _ HI4.out).mono ?_); rintro e w6 ⟨rfl, hi6⟩; (have HI6 := Lib.hid hi6); clear hi6))
                go_roundw
                case rel => exact ⟨t + 1, m' + 1, X2, _, ht8, rfl, HX2.out, by go_num, HC1.out.symm, HI6.out, HG5.out, HS5.out, HM5.out⟩
                case measure => simp [intOf]; omega
              · have e3 : ((m' : Int) % 512 == 0) = false := by simp; omega
                have hM5 := HM4.out.skip m0
                have HM5 := Lib.hid hM5
                clear hM5 hct hbit m0
                go_wp2_with fail
                go_roundw
                case rel => exact ⟨t + 1, m' + 1, X2, _, ht8, rfl, HX2.out, by go_num, HC1.out.symm, HI4.out, HG4.out, HS4.out, HM5.out⟩
                case measure => simp [intOf]; omega
    · obtain rfl : q = n := by have := HL.out; have := HNN.out; omega
      go_wp2
      go_ret
      refine ⟨rfl, L, hI, fun t ht => ?_⟩
      obtain ⟨t1, t2, t3⟩ := t
      have hAn : N ≤ A := by omega
      rcases ht with ⟨h1, h2⟩ | ⟨h1, h2⟩ | ⟨h1, h2⟩
      · simp only at h1 h2
        subst h1
        have := (List.getElem?_eq_some_iff.1 h2).1
        rw [gr_len] at this
        exact hG t2 t3 (by omega) h2
      · simp only at h1 h2
        subst h1
        have := (List.getElem?_eq_some_iff.1 h2).1
        rw [sm_len] at this
        exact hS t2 t3 (by omega) h2
      · simp only at h1 h2
        subst h1
        have := (List.getElem?_eq_some_iff.1 h2).1
        rw [mk_len] at this
        exact hM t2 t3 (by rw [pad_cnt HL.out HP.out A hAn]; omega) h2
end Go.Proofs.YtgajpekolamjbaaDoor
/- Build of the program: what its closure writes, the vector's bytes. -/
namespace Go.Proofs.YtgajpekolamjbaaDoor
open Go.RowKit Go.Tk
theorem vt_le {d : List UInt8} {N part i v : Nat} (h : Vt d N (part, i, v)) (hN : N ≤ 67108864) : v ≤ 1000000000 := by
  have hc := cnt_le d N
  rcases h with ⟨_, h2⟩ | ⟨_, h2⟩ | ⟨_, h2⟩
  · simp only at h2
    have h3 := (List.getElem?_eq_some_iff.1 h2).1
    rw [gr_len] at h3
    rw [gr_get d i N (by omega)] at h2
    have := Option.some.inj h2
    have := cnt_le d (i * 2048)
    omega
  · simp only at h2
    have h3 := (List.getElem?_eq_some_iff.1 h2).1
    rw [sm_len] at h3
    rw [sm_get d i N (by omega)] at h2
    have := Option.some.inj h2
    have := cnt_le d (i * 256)
    omega
  · simp only at h2
    have h3 := (List.getElem?_eq_some_iff.1 h2).1
    rw [mk_len] at h3
    obtain ⟨u, a, _, _, e⟩ := mk_val d N i (by omega)
    rw [e] at h2
    have := Option.some.inj h2
    omega
theorem head_take {d : List UInt8} {N m E : Nat} (hE : 8 + d.length ≤ E) : ((putL (putL (List.replicate E 0) 0 N 4) 4 m 4).take 8 ++ (nums d ++ (putL (putL (List.replicate E 0) 0 N 4) 4 m 4).drop (8 + (nums d).length))).take (grO d) = nums (leB N 4 ++ leB m 4 ++ d) := by
  have hl : (putL (putL (List.replicate E 0) 0 N 4) 4 m 4).length = E := by rw [put_len, put_len]; simp
  have h8 : (putL (putL (List.replicate E 0) 0 N 4) 4 m 4).take 8 = nums (leB N 4 ++ leB m 4) := by
    apply List.ext_getElem?
    intro i
    by_cases hi : i < 8
    · rw [List.getElem?_take, if_pos hi, put_at _ _ _ _ _ (by rw [put_len]; simp; omega), nums_append]
      by_cases h4 : i < 4
      · rw [if_neg (by omega), put_at _ _ _ _ _ (by simp; omega), if_pos (by omega), List.getElem?_append_left (by rw [nums_len, le_len]; exact h4), le_nums h4]
        simp
      · rw [if_pos (by omega), List.getElem?_append_right (by rw [nums_len, le_len]; omega), nums_len, le_len, le_nums (by omega)]
    · rw [List.getElem?_eq_none (by rw [List.length_take]; omega), List.getElem?_eq_none (by rw [nums_len]; simp [le_len]; omega)]
  rw [h8, ← List.append_assoc, ← nums_append, List.take_append_of_le_length (by rw [nums_len]; simp [le_len]; unfold grO; omega), List.take_of_length_le (by rw [nums_len]; simp [le_len]; unfold grO; omega)]
theorem info1 : (Tryd.prog.info? 5).map (·.size) = some 1 := by kernel_rfl
theorem slI_kept0 {S : Nat → Prop} {k : IntKind} {w w' : World} {a : Option Addr} {n cap : Nat} {zs : List Int} (h : SlI k w a n cap zs) (hk : Kept S w w') (ha : ∀ x, a = some x → 0 < n → ¬ S x.block) : SlI k w' a n cap zs :=
  ⟨h.len, h.le, h.max, fun i hi => by
    obtain ⟨b, o, rfl, hc⟩ := h.cell i hi
    exact ⟨b, o, rfl, hk.cell hc (ha ⟨b, o, none⟩ rfl (by omega))⟩⟩
/-- What the closure of Build captures, and what its row holds. -/
structure BI (w0 : World) (g pb pp : Nat) (d : List UInt8) (N : Nat) (w : World) (L : List (Nat × Nat × Nat)) : Prop where
  hb : w.heap[pb]? = some (.cells #[.slice (some ⟨g, 0, none⟩) (enO d N) (enO d N)] 22 (0, 0))
  hp : w.heap[pp]? = some (.cells #[.int .i64 8, .int .i64 (grO d : Nat), .int .i64 (smO d N : Nat), .int .i64 (mkO d N : Nat), .int .i64 (enO d N : Nat)] 82 (0, 0))
  row : ∃ zs, RowI .u8 5 w g zs ∧ RowT d N zs L
  kept : Kept (fun j => j = g) w0 w
end Go.Proofs.YtgajpekolamjbaaDoor
/- The document's bit, number, padded. -/
namespace Go.Tk
open Go Go.RowKit
theorem bit_and : ∀ y : Fin 256, ∀ j : Fin 8, (bits .and .u8 ((y.val : Int) / 2 ^ j.val) 1 == 1) = y.val.testBit j.val := by decide +kernel
theorem bit_mod : ∀ y : Fin 256, ∀ j : Fin 8, (((y.val : Int) / 2 ^ j.val) % 2 == 1) = y.val.testBit j.val := by decide +kernel
end Go.Tk
namespace Go.Proofs.YtgajpekolamjbaaDoor
open Go.RowKit Go.Tk
theorem bit_calls (w : World) (a : Option Addr) (n c : Nat) (d : List UInt8) (i : Nat) (h : SlI .u8 w a n c (nums d)) (hi : i / 8 < d.length) (hb : i ≤ 9000000000000000000) :
    Calls Tryd.prog 74 #[.slice a n c, .int .i64 (i : Nat)] w fun e w' => e = .returned (.bool (btB d i)) ∧ w = w' := by
  have hnl := h.len
  rw [nums_len] at hnl
  obtain ⟨b, o, rfl, hc⟩ := h.cell (i / 8) (by omega)
  rw [nums_getD d _ hi] at hc
  obtain ⟨y, hy⟩ : ∃ y : Nat, y = (d[i / 8]).toNat := ⟨_, rfl⟩
  rw [← hy] at hc
  have hy2 : y ≤ 255 := by have := UInt8.toNat_lt (d[i / 8]); omega
  have e1 := bit_and ⟨y, by omega⟩ ⟨i % 8, by omega⟩
  have e2 := bit_mod ⟨y, by omega⟩ ⟨i % 8, by omega⟩
  simp only at e1 e2
  have hres : btB d i = y.testBit (i % 8) := by
    unfold btB
    rw [hy, List.getD_eq_getElem?_getD, List.getElem?_eq_getElem hi]; rfl
  rw [hres]
  generalize y.testBit (i % 8) = r at e1 e2
  clear hres hy h
  go_enter Tryd.func74, Tryd.ntmps74
  go_wp2
  go_ret
  exact ⟨rfl, rfl⟩
set_option maxHeartbeats 1000000 in
theorem rknum_calls (w : World) (v k : Nat) (hv : v ≤ 1000000000000) (hk : k ≤ 8) :
    Calls Tryd.prog 76 #[.int .i64 (v : Nat), .int .i64 (k : Nat)] w fun e w' => ∃ x, e = .returned x ∧ Ow .u8 5 w.heap.size w' x (nums (leB v k)) ∧ Below w.heap.size w w' := by
  go_enter Tryd.func76, Tryd.ntmps76
  go_wp2
  go_loopw [5, 6] (fun ov iv wr => ∃ i : Nat, iv = .int .i64 (i : Nat) ∧ i ≤ k ∧ Ow .u8 5 w.heap.size wr ov (nums (leB v i)) ∧ Below w.heap.size w wr) (fun _ iv _ => k - (intOf iv).toNat)
  case atStart => exact ⟨0, rfl, Nat.zero_le _, Ow.nil _ _ _ _, Below.refl _ _⟩
  case round =>
    obtain ⟨i, rfl, hi, how, hb⟩ := hrel
    have HOW := Lib.hid how
    have HB := Lib.hid hb
    have hln : (nums (leB v i)).length = i := by rw [nums_len, le_len]
    have HLN := Lib.hid hln
    clear how hb hln
    by_cases hik : i < k
    · have hnx : nums (leB v i) ++ [((v / 256 ^ i % 256 : Nat) : Int)] = nums (leB v (i + 1)) := by
        have : leB v (i + 1) = leB v i ++ [UInt8.ofNat (v / 256 ^ i % 256)] := by
          apply List.ext_getElem?
          intro j
          by_cases hj : j < i
          · rw [List.getElem?_append_left (by rw [le_len]; exact hj), le_get _ _ _ (by omega), le_get _ _ _ hj]
          · by_cases hj2 : j = i
            · subst hj2
              rw [List.getElem?_append_right (by rw [le_len]; exact Nat.le_refl _), le_len, Nat.sub_self, le_get _ _ _ (by omega)]; rfl
            · rw [List.getElem?_eq_none (by rw [le_len]; omega), List.getElem?_eq_none (by simp [le_len]; omega)]
        rw [this, nums_append]
        simp [nums]
      have HNX := Lib.hid hnx
      clear hnx
      have hv2 := le_val v i
      go_wp2_with (at_builtin; go_loud (refine wpList_appJ rfl (.tmp 12) (.tmp 18) _ rfl .u8 w.heap.size 5 _ 1 Tryd.underlying22 Tryd.infoU8 rfl _ _ rfl (HOW.out.alloc _) _ 1 1 _ rfl (SlI.one _ _ _ _) (by simp) (by have := HLN.out; omega) (by have := HLN.out; omega) (by have := HB.out.size; simp; omega) ?_; intro v' w' ow' hg' st'; (have HO2 := Lib.hid ow'); (have HB2 := Lib.hid ((HB.out.alloc HB.out.size _).grown hg' (by have := HB.out.size; simp; omega) (fun j hj => (HOW.out.lt j hj).1))); clear ow' hg' st'))
      go_roundw
      case rel => exact ⟨i + 1, by go_num, by omega, by rw [← HNX.out]; exact HO2.out, HB2.out⟩
      case measure => simp [intOf]; omega
    · obtain rfl : i = k := by omega
      go_wp2
      go_ret
      exact ⟨_, rfl, HOW.out, HB.out⟩
set_option maxHeartbeats 1000000 in
theorem rpadded_calls (w : World) (a : Option Addr) (n c : Nat) (d : List UInt8) (N : Nat) (h : SlI .u8 w a n c (nums d)) (hl : d.length = (N + 7) / 8) (hN : N ≤ 67108864) :
    Calls Tryd.prog 71 #[.slice a n c, .int .i64 (N : Nat)] w fun e w' => e = .returned (.bool (padB d N)) ∧ w = w' := by
  have hnl := h.len
  rw [nums_len] at hnl
  have H := Lib.hid h
  have HL := Lib.hid hl
  have HNL := Lib.hid hnl
  have hn : n ≤ 8388608 := by omega
  have hn8 : N ≤ 8 * n := by omega
  clear h hl hnl
  go_enter Tryd.func71, Tryd.ntmps71
  go_wp2
  go_loop [5] (fun iv => ∃ i : Nat, iv = .int .i64 (i : Nat) ∧ N ≤ i ∧ i ≤ 8 * n ∧ ∀ j, N ≤ j → j < i → btB d j = false) (fun iv => 8 * n - (intOf iv).toNat)
  case atStart => exact ⟨N, rfl, Nat.le_refl _, hn8, fun j h1 h2 => by omega⟩
  case round =>
    obtain ⟨i, rfl, hi0, hi, hall⟩ := hrel
    by_cases hin : i < 8 * n
    · have hcall := fun w' h => bit_calls w' a n c d i h (by have := HNL.out; omega) (by omega)
      have HALL := Lib.hid hall
      clear hall
      by_cases hb : btB d i = true
      · rw [hb] at hcall
        have hp : padB d N = false := by
          cases hq : padB d N
          · rfl
          · have := pad_bits HL.out hq i hi0
            rw [hb] at this; cases this
        have HC := Lib.hid hcall
        have HPP := Lib.hid hp
        clear hcall hb hp
        go_wp2_with (go_at_call 74; refine (HC.out _ H.out).mono ?_; rintro e w1 ⟨rfl, rfl⟩)
        go_ret
        refine ⟨?_, rfl⟩
        rw [HPP.out]; rfl
      · have hb' : btB d i = false := by simpa using hb
        rw [hb'] at hcall
        have HC := Lib.hid hcall
        have HB := Lib.hid hb'
        clear hcall hb hb'
        go_wp2_with (go_at_call 74; refine (HC.out _ H.out).mono ?_; rintro e w1 ⟨rfl, rfl⟩)
        go_round
        case rel =>
          refine ⟨i + 1, by go_num, by omega, by omega, fun j h1 h2 => ?_⟩
          by_cases hj : j < i
          · exact HALL.out j h1 hj
          · obtain rfl : j = i := by omega
            exact HB.out
        case measure => simp [intOf]; omega
    · have hp : padB d N = true := by
        cases hq : padB d N
        · obtain ⟨j, h1, h2, h3⟩ := pad_not HL.out hq
          have := hall j h1 (by have := HNL.out; omega)
          rw [h3] at this; cases this
        · rfl
      have HPP := Lib.hid hp
      clear hp hall
      go_wp2
      go_ret
      refine ⟨?_, rfl⟩
      rw [HPP.out]; rfl
end Go.Proofs.YtgajpekolamjbaaDoor
