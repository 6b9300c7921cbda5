/- RankBuilds: Build of any bytes and number: the vector's bytes, or the error; twice, each its holder's; data stays as it is. -/
import Derived.Test.YtpphjiialgmidaaRkS
set_option linter.unusedVariables false
set_option linter.unusedSimpArgs false
namespace Go.Proofs.Ytpphjiialgmidaa
open Go.RowKit Go.Tk
def bytesZ (zs : List Int) : List UInt8 := zs.map fun z => UInt8.ofNat z.toNat
theorem nums_bytesZ {zs : List Int} (h : ∀ z ∈ zs, 0 ≤ z ∧ z < 256) : nums (bytesZ zs) = zs := by
  unfold nums bytesZ
  rw [List.map_map]
  conv => rhs; rw [← List.map_id zs]
  apply List.map_congr_left
  intro z hz
  have := h z hz
  simp
  omega
theorem grow_kept {w6 wr w' : World} {ga : Nat} {v : Value} (hk : Kept (fun j => j = ga) w6 wr) (hg : wr.grownBy w' v.ownBlock) (ho : ∀ i, v.ownBlock = some i → i = ga ∨ w6.heap.size ≤ i) : Kept (fun j => j = ga) w6 w' :=
  hk.trans (Kept.of_grown hg) (fun i hi => ho i hi)
theorem grow_own {w6 wr : World} {ga : Nat} {v v' : Value} (h : OwnStep wr v v') (ho : ∀ i, v.ownBlock = some i → i = ga ∨ w6.heap.size ≤ i) (hs : w6.heap.size ≤ wr.heap.size) : ∀ i, v'.ownBlock = some i → i = ga ∨ w6.heap.size ≤ i := by
  intro i hi
  rcases h with h | ⟨g, h, hg⟩
  · rw [h] at hi; exact ho i hi
  · rw [h] at hi
    obtain rfl := Option.some.inj hi
    exact .inr (by omega)
set_option maxRecDepth 100000 in
set_option maxHeartbeats 4000000 in
theorem builds_yes (w : World) (a : Option Addr) (n c : Nat) (d : List UInt8) (N : Nat) (hs : SlI .u8 w a n c (nums d)) (hnil : a = none → c = 0) (hl : d.length = (N + 7) / 8) (hp : padB d N = true) (hN : N ≤ 67108864) :
    Calls Try.prog 4 #[.slice a n c, .int .i64 (N : Nat)] w fun e w' => e = .returned (.bool true) ∧ Below w.heap.size w w' := by
  have hnl := hs.len
  rw [nums_len] at hnl
  have hn8 : n ≤ 8388608 := by omega
  have hE : enO d N ≤ 100000000 := by have := cnt_le d N; unfold enO mkO smO grO; omega
  have hWl : (nums (whB d N)).length = enO d N := by rw [nums_len, wh_len']
  have hlent := lent_calls w a n c (nums d) hs (by omega)
  have hb1 := fun w' h => build_yes w' (some ⟨w.heap.size, 0, none⟩) n (n + 2) d N h hl hp hN
  have hrb := fun w' h => rbuild_yes w' a n c d N h hnil hl hp hN
  obtain ⟨W, hW⟩ : ∃ W, W = nums (whB d N) := ⟨_, rfl⟩
  obtain ⟨E, hEE⟩ : ∃ E, E = enO d N := ⟨_, rfl⟩
  rw [← hW, ← hEE] at hb1
  rw [← hW] at hrb hWl
  rw [← hEE] at hWl hE
  have HS := Lib.hid hs
  have HNL := Lib.hid hnl
  have HLENT := Lib.hid hlent
  have HB1 := Lib.hid hb1
  have HRB := Lib.hid hrb
  have HWL := Lib.hid hWl
  clear hs hnl hlent hb1 hrb hWl hW hEE hl hp hnil
  go_enter Try.func4, Try.ntmps4
  go_upto_region 2 with (go_at_call 13; (with_reducible refine HLENT.out.mono ?_); rintro e w1 ⟨rfl, hf⟩; (have HF := Lib.hid hf); clear hf)
  have ho1 := HF.out.row
  have hb1 := HF.out.below
  go_upto_region 3 with (go_at_call 14; (with_reducible refine (HB1.out _ (own_sl ho1 (by rw [nums_len]; exact HNL.out) (by omega))).mono ?_); rintro e w2 ⟨ga, rfl, hga, hra, hb2⟩; (have HRA := Lib.hid hra); (have HGA := Lib.hid hga); (have HB2 := Lib.hid hb2); clear hra hga hb2)
  have hlt1 := ho1.lt
  have ho2 := ho1.below HB2.out hlt1
  have hb2 := hb1.trans (HB2.out.mono hb1.size)
  have hga := HGA.out
  have hra2 := HRA.out
  clear HF HB2 ho1 hb1
  go_upto_region 4 with (go_at_call 14; (with_reducible refine (HB1.out _ (own_sl ho2 (by rw [nums_len]; exact HNL.out) (by omega))).mono ?_); rintro e w3 ⟨gb, rfl, hgb, hrb3, hb3⟩; (have HRB3 := Lib.hid hrb3); (have HGB := Lib.hid hgb); (have HB3 := Lib.hid hb3); clear hrb3 hgb hb3)
  have hlt2 := hra2.lt
  have ho3 := ho2.below HB3.out ho2.lt
  have hra3 := hra2.below HB3.out hlt2
  have hb3 := hb2.trans (HB3.out.mono hb2.size)
  have hgb := HGB.out
  have hrb3 := HRB3.out
  clear HRA HB3 ho2 hra2 hb2
  go_upto_region 5 with (go_at_call 15; (with_reducible refine (HRB.out _ (HS.out.keep hb3)).mono ?_); rintro e w4 ⟨vw, rfl, hvw, hb4⟩; (have HVW := Lib.hid hvw); (have HB4 := Lib.hid hb4); clear hvw hb4)
  have hlt3 := hrb3.lt
  have hra4 := hra3.below HB4.out hra3.lt
  have bs4 : BS2 w w.heap.size ga gb vw (nums d ++ [171, 172]) W w4 := ⟨ho3.below HB4.out ho3.lt, hrb3.below HB4.out hlt3, HVW.out.mono (by omega), hb3.trans (HB4.out.mono hb3.size), Nat.le_refl _, by omega, by omega⟩
  obtain ⟨wa, wc, rfl, _, _⟩ := HVW.out.sl
  have BS4 := Lib.hid bs4
  have HRA4 := Lib.hid hra4
  clear ho3 hra3 hb3 hrb3 HRB3 HVW HB4 HGA HGB hga hgb hlt1 hlt2 hlt3 bs4 hra4
  have slc : ∀ k, SlI .u8 (w4.drewN k) wa W.length wc W := fun k => by
    obtain ⟨a', c', he, hs', _⟩ := BS4.out.c.sl
    simp at he
    obtain ⟨rfl, rfl⟩ := he
    exact hs'.drewN k
  have hsA : ∀ w', (∃ k, w' = w4.drewN k) → Calls Try.prog 17 #[.slice (some ⟨ga, 0, none⟩) E E, .slice wa W.length wc] w' fun e w'' => e = .returned (.bool true) ∧ ∃ k, w'' = w4.drewN k := by
    rintro _ ⟨k, rfl⟩
    refine (same_self _ _ _ _ _ _ _ W (row_sl (HRA4.out.drewN k) HWL.out (by omega)) (slc k)).mono fun e w'' ⟨h1, m, h2⟩ => ⟨h1, k + m, by rw [h2, drewN_add]⟩
  have hsB : ∀ w', (∃ k, w' = w4.drewN k) → Calls Try.prog 17 #[.slice (some ⟨gb, 0, none⟩) E E, .slice wa W.length wc] w' fun e w'' => e = .returned (.bool true) ∧ ∃ k, w'' = w4.drewN k := by
    rintro _ ⟨k, rfl⟩
    refine (same_self _ _ _ _ _ _ _ W (row_sl (BS4.out.b.drewN k) HWL.out (by omega)) (slc k)).mono fun e w'' ⟨h1, m, h2⟩ => ⟨h1, k + m, by rw [h2, drewN_add]⟩
  have hbk : ∀ w', (∃ k, w' = w4.drewN k) → Calls Try.prog 18 #[.slice (some ⟨w.heap.size, 0, none⟩) n (n + 2), .slice a n c] w' fun e w'' => e = .returned (.bool true) ∧ ∃ k, w'' = w4.drewN k := by
    rintro _ ⟨k, rfl⟩
    refine (back_calls _ w.heap.size a n c (nums d) (BS4.out.o.drewN k) ((HS.out.keep BS4.out.bel).drewN k) (by omega)).mono fun e w'' ⟨h1, m, h2⟩ => ⟨h1, k + m, by rw [h2, drewN_add]⟩
  have HSA := Lib.hid hsA
  have HSB := Lib.hid hsB
  have HBK := Lib.hid hbk
  have HDW : ∃ k, w4 = w4.drewN k := ⟨0, rfl⟩
  clear slc hsA hsB hbk
  go_wp2_with (first
    | (go_at_call 16; refine (num_calls _ _ (by omega) (by omega)).mono ?_; rintro e wz ⟨rfl, rfl⟩)
    | (go_at_call 17; (with_reducible refine (HSA.out _ HDW).mono ?_); rintro e wz ⟨rfl, hd⟩; (have HDW := hd); clear hd)
    | (go_at_call 17; (with_reducible refine (HSB.out _ HDW).mono ?_); rintro e wz ⟨rfl, hd⟩; (have HDW := hd); clear hd)
    | (go_at_call 18; (with_reducible refine (HBK.out _ HDW).mono ?_); rintro e wz ⟨rfl, hd⟩; (have HDW := hd); clear hd))
  obtain ⟨k5, rfl⟩ := HDW
  have bs5 := BS4.out.drewN k5
  have hra5 := HRA4.out.drewN k5
  clear HSA HSB HBK BS4 HRA4
  generalize w4.drewN k5 = w5 at bs5 hra5 ⊢
  have BS5 := Lib.hid bs5
  have HRA5 := Lib.hid hra5
  clear bs5 hra5
  go_loopw [12] (fun iv wr => ∃ (i : Nat) (za : List Int), iv = .int .i64 (i : Nat) ∧ i ≤ E ∧ za.length = E ∧ RowI .u8 5 wr ga za ∧ Kept (fun j => j = ga) w5 wr) (fun iv _ => E - (intOf iv).toNat)
  case atStart => exact ⟨0, W, rfl, Nat.zero_le _, HWL.out, HRA5.out, Kept.refl _ _⟩
  case round =>
    obtain ⟨i, za, rfl, hi, hza, hra, hk⟩ := hrel
    have HZA := Lib.hid hza
    have HRA := Lib.hid hra
    have HK := Lib.hid hk
    clear hza hra hk HRA5
    by_cases hiE : i < E
    · have c0 := HRA.out.cell i (by rw [HZA.out]; exact hiE)
      have hfz := HRA.out.frozen i
      have hlt := HRA.out.lt
      go_wp2
      go_roundw
      case rel => exact ⟨i + 1, za.set i 9, by go_num, by omega, by rw [List.length_set]; exact HZA.out, HRA.out.set i 9, kept_set HK.out i _⟩
      case measure => simp [intOf]; omega
    · rename World => w6
      have bs6 := BS5.out.kept HK.out
      have how : Ow .u8 5 ga w6 (.slice (some ⟨ga, 0, none⟩) E E) za := by
        have := RowI.ow HRA.out (Nat.le_refl ga) (by rw [HZA.out]; omega)
        rw [HZA.out] at this
        exact this
      have BS6 := Lib.hid bs6
      have HOW := Lib.hid how
      have hgl := HRA.out.lt
      clear bs6 how HRA HK BS5
      go_wp2_with fail
      go_loopw [6, 13] (fun av iv wr => ∃ (j : Nat) (zx : List Int), iv = .int .i64 (j : Nat) ∧ j ≤ 40 ∧ zx.length = E + j ∧ Ow .u8 5 ga wr av zx ∧ (∀ i, av.ownBlock = some i → i = ga ∨ w6.heap.size ≤ i) ∧ Kept (fun j => j = ga) w6 wr) (fun _ iv _ => 40 - (intOf iv).toNat)
      case atStart => exact ⟨0, za, rfl, by omega, by rw [HZA.out]; rfl, HOW.out, (fun i h => by simp [Value.ownBlock] at h; exact .inl h.symm), Kept.refl _ _⟩
      case round =>
        obtain ⟨j, zx, rfl, hj, hzx, hox, hown, hk⟩ := hrel
        obtain ⟨xa, xc, rfl, _, _⟩ := hox.sl
        have HOX := Lib.hid hox
        have HOWN := Lib.hid hown
        have HK := Lib.hid hk
        have HZX := Lib.hid hzx
        clear hox hown hk hzx HOW
        by_cases hj4 : j < 40
        · go_wp2_with (at_builtin; (refine wpList_appJ rfl (.tmp 77) (.tmp 78) _ rfl .u8 ga 5 _ 1 Try.underlying24 Try.infoU8 rfl _ zx rfl (HOX.out.alloc _) _ 1 1 _ rfl (SlI.one _ _ _ _) (by simp) (by have := HZX.out; omega) (by have := HZX.out; omega) (by have := HK.out.size; simp; omega) ?_; intro v' w' ow' hg' st'; (have HO2 := Lib.hid ow'); (have HK2 := Lib.hid (grow_kept (HK.out.alloc _) hg' HOWN.out)); (have HOWN2 := Lib.hid (grow_own st' HOWN.out (by have := HK.out.size; simp; omega))); clear ow' hg' st'))
          go_roundw
          case rel => exact ⟨j + 1, _, by go_num, by omega, by rw [List.length_append, HZX.out]; rfl, HO2.out, HOWN2.out, HK2.out⟩
          case measure => simp [intOf]; omega
        · rename World => w7
          have bs7 := BS6.out.kept HK.out
          have BS7 := Lib.hid bs7
          clear bs7 HOX HOWN HK BS6
          have slc : ∀ k, SlI .u8 (w7.drewN k) wa W.length wc W := fun k => by
            obtain ⟨a', c', he, hs', _⟩ := BS7.out.c.sl
            simp at he
            obtain ⟨rfl, rfl⟩ := he
            exact hs'.drewN k
          have hsB : ∀ w', (∃ k, w' = w7.drewN k) → Calls Try.prog 17 #[.slice (some ⟨gb, 0, none⟩) E E, .slice wa W.length wc] w' fun e w'' => e = .returned (.bool true) ∧ ∃ k, w'' = w7.drewN k := by
            rintro _ ⟨k, rfl⟩
            refine (same_self _ _ _ _ _ _ _ W (row_sl (BS7.out.b.drewN k) HWL.out (by omega)) (slc k)).mono fun e w'' ⟨h1, m, h2⟩ => ⟨h1, k + m, by rw [h2, drewN_add]⟩
          have hbk : ∀ w', (∃ k, w' = w7.drewN k) → Calls Try.prog 18 #[.slice (some ⟨w.heap.size, 0, none⟩) n (n + 2), .slice a n c] w' fun e w'' => e = .returned (.bool true) ∧ ∃ k, w'' = w7.drewN k := by
            rintro _ ⟨k, rfl⟩
            refine (back_calls _ w.heap.size a n c (nums d) (BS7.out.o.drewN k) ((HS.out.keep BS7.out.bel).drewN k) (by omega)).mono fun e w'' ⟨h1, m, h2⟩ => ⟨h1, k + m, by rw [h2, drewN_add]⟩
          have HSB := Lib.hid hsB
          have HBK := Lib.hid hbk
          have HDW : ∃ k, w7 = w7.drewN k := ⟨0, rfl⟩
          clear slc hsB hbk
          go_wp2_with (first
            | (go_at_call 17; (with_reducible refine (HSB.out _ HDW).mono ?_); rintro e wz ⟨rfl, hd⟩; (have HDW := hd); clear hd)
            | (go_at_call 18; (with_reducible refine (HBK.out _ HDW).mono ?_); rintro e wz ⟨rfl, hd⟩; (have HDW := hd); clear hd))
          obtain ⟨k8, rfl⟩ := HDW
          have bs8 := BS7.out.drewN k8
          clear HSB HBK BS7
          generalize w7.drewN k8 = w8 at bs8 ⊢
          have BS8 := Lib.hid bs8
          clear bs8
          go_loopw [15] (fun iv wr => ∃ (i : Nat) (zo : List Int), iv = .int .i64 (i : Nat) ∧ i ≤ n ∧ zo.length = n + 2 ∧ BS2 w w.heap.size ga gb (.slice wa W.length wc) zo W wr) (fun iv _ => n - (intOf iv).toNat)
          case atStart => exact ⟨0, _, rfl, Nat.zero_le _, by rw [List.length_append, nums_len, HNL.out]; rfl, BS8.out⟩
          case round =>
            obtain ⟨i, zo, rfl, hi, hzo, hbs⟩ := hrel
            have HZO := Lib.hid hzo
            have HBS := Lib.hid hbs
            clear hzo hbs BS8
            by_cases hin : i < n
            · have c0 := HBS.out.o.cell i (by rw [HZO.out]; omega)
              have hfz := HBS.out.o.frozen i
              have hlt := HBS.out.o.lt
              go_wp2
              go_roundw
              case rel => exact ⟨i + 1, zo.set i 255, by go_num, by omega, by rw [List.length_set]; exact HZO.out, HBS.out.setO i 255⟩
              case measure => simp [intOf]; omega
            · rename World => w9
              have slc : SlI .u8 w9 wa W.length wc W := by
                obtain ⟨a', c', he, hs', _⟩ := HBS.out.c.sl
                simp at he
                obtain ⟨rfl, rfl⟩ := he
                exact hs'
              have hsB := same_self w9 _ _ _ _ _ _ W (row_sl HBS.out.b HWL.out (by omega)) slc
              have HSB := Lib.hid hsB
              clear slc hsB
              go_wp2_with (go_at_call 17; (with_reducible refine HSB.out.mono ?_); rintro e wz ⟨rfl, m, rfl⟩)
              go_ret
              exact ⟨rfl, below_drewN HBS.out.bel _⟩
theorem bErr_bd (d : List UInt8) (N : Int) : 0 ≤ bErr d N ∧ bErr d N ≤ 13 := by
  unfold bErr
  repeat' split
  all_goals omega
set_option maxRecDepth 100000 in
set_option maxHeartbeats 4000000 in
theorem builds_no (w : World) (a : Option Addr) (n c : Nat) (d : List UInt8) (N : Int) (hs : SlI .u8 w a n c (nums d)) (hd : n ≤ 140737488351232) (he : bErr d N ≠ 0) :
    Calls Try.prog 4 #[.slice a n c, .int .i64 N] w fun e w' => e = .returned (.bool true) ∧ Below w.heap.size w w' := by
  have hnl := hs.len
  rw [nums_len] at hnl
  have hlent := lent_calls w a n c (nums d) hs hd
  have hb1 := fun w' h => build_no w' (some ⟨w.heap.size, 0, none⟩) n (n + 2) d N h hd he
  have hrb := fun w' h => rbuild_no w' a n c d N h hd he
  obtain ⟨hB0, hB1⟩ := bErr_bd d N
  obtain ⟨B, hB⟩ : ∃ B, B = bErr d N := ⟨_, rfl⟩
  rw [← hB] at hb1 hrb hB0 hB1
  have hbb : (B != B) = false := by simp
  have HS := Lib.hid hs
  have HNL := Lib.hid hnl
  have HLENT := Lib.hid hlent
  have HB1 := Lib.hid hb1
  have HRB := Lib.hid hrb
  clear hs hnl hlent hb1 hrb hB he
  go_enter Try.func4, Try.ntmps4
  go_upto_region 2 with (go_at_call 13; (with_reducible refine HLENT.out.mono ?_); rintro e w1 ⟨rfl, hf⟩; (have HF := Lib.hid hf); clear hf)
  have ho1 := HF.out.row
  have hb1 := HF.out.below
  have hlt1 := ho1.lt
  have HO1 := Lib.hid ho1
  have HBW := Lib.hid hb1
  clear HF ho1 hb1
  go_upto_region 5 with (first
    | (go_at_call 14; (with_reducible refine (HB1.out _ (own_sl HO1.out (by rw [nums_len]; exact HNL.out) hd)).mono ?_); rintro e w2 ⟨rfl, rfl⟩)
    | (go_at_call 15; (with_reducible refine (HRB.out _ (HS.out.keep HBW.out)).mono ?_); rintro e w2 ⟨rfl, rfl⟩))
  have hsA : ∀ w', (∃ k, w' = w1.drewN k) → Calls Try.prog 17 #[.slice none 0 0, .slice none 0 0] w' fun e w'' => e = .returned (.bool true) ∧ ∃ k, w'' = w1.drewN k := by
    rintro _ ⟨k, rfl⟩
    exact (same_self _ _ _ _ _ _ _ [] (nil_sl _ _) (nil_sl _ _)).mono fun e w'' ⟨h1, m, h2⟩ => ⟨h1, k + m, by rw [h2, drewN_add]⟩
  have hbk : ∀ w', (∃ k, w' = w1.drewN k) → Calls Try.prog 18 #[.slice (some ⟨w.heap.size, 0, none⟩) n (n + 2), .slice a n c] w' fun e w'' => e = .returned (.bool true) ∧ ∃ k, w'' = w1.drewN k := by
    rintro _ ⟨k, rfl⟩
    exact (back_calls _ w.heap.size a n c (nums d) (HO1.out.drewN k) ((HS.out.keep HBW.out).drewN k) hd).mono fun e w'' ⟨h1, m, h2⟩ => ⟨h1, k + m, by rw [h2, drewN_add]⟩
  have HSA := Lib.hid hsA
  have HBK := Lib.hid hbk
  have HDW : ∃ k, w1 = w1.drewN k := ⟨0, rfl⟩
  clear hsA hbk
  go_wp2_with (first
    | (go_at_call 16; refine (num_calls _ _ (by omega) (by omega)).mono ?_; rintro e wz ⟨rfl, rfl⟩)
    | (go_at_call 17; (with_reducible refine (HSA.out _ HDW).mono ?_); rintro e wz ⟨rfl, hd⟩; (have HDW := hd); clear hd)
    | (go_at_call 18; (with_reducible refine (HBK.out _ HDW).mono ?_); rintro e wz ⟨rfl, hd⟩; (have HDW := hd); clear hd))
  obtain ⟨k5, rfl⟩ := HDW
  have ho5 := HO1.out.drewN k5
  have hb5 := below_drewN HBW.out k5
  clear HSA HBK HO1 HBW
  generalize w1.drewN k5 = w5 at ho5 hb5 ⊢
  have HO5 := Lib.hid ho5
  have HB5 := Lib.hid hb5
  have hlt5 := ho5.lt
  clear ho5 hb5
  refine wp_loop_rounds 1 ?_
  rw [rounds_succ]
  go_wp2
  go_loopw [6, 13] (fun av iv wr => ∃ (j : Nat) (zx : List Int), iv = .int .i64 (j : Nat) ∧ j ≤ 40 ∧ zx.length = j ∧ Ow .u8 5 w5.heap.size wr av zx ∧ Below w5.heap.size w5 wr) (fun _ iv _ => 40 - (intOf iv).toNat)
  case atStart => exact ⟨0, [], rfl, by omega, rfl, Ow.nil _ _ _ _, Below.refl _ _⟩
  case round =>
    obtain ⟨j, zx, rfl, hj, hzx, hox, hbx⟩ := hrel
    obtain ⟨xa, xc, rfl, _, _⟩ := hox.sl
    have HOX := Lib.hid hox
    have HBX := Lib.hid hbx
    have HZX := Lib.hid hzx
    clear hox hbx hzx
    by_cases hj4 : j < 40
    · go_wp2_with (at_builtin; (refine wpList_appJ rfl (.tmp 77) (.tmp 78) _ rfl .u8 w5.heap.size 5 _ 1 Try.underlying24 Try.infoU8 rfl _ zx rfl (HOX.out.alloc _) _ 1 1 _ rfl (SlI.one _ _ _ _) (by simp) (by have := HZX.out; omega) (by have := HZX.out; omega) (by have := HBX.out.size; simp; omega) ?_; intro v' w' ow' hg' st'; (have HO2 := Lib.hid ow'); (have HB2 := Lib.hid ((HBX.out.alloc HBX.out.size _).grown hg' (by have := HBX.out.size; simp; omega) (fun i hi => (HOX.out.lt i hi).1))); clear ow' hg' st'))
      go_roundw
      case rel => exact ⟨j + 1, _, by go_num, by omega, by rw [List.length_append, HZX.out]; rfl, HO2.out, HB2.out⟩
      case measure => simp [intOf]; omega
    · rename World => w7
      have ho7 := HO5.out.below HBX.out hlt5
      have hb7 := HB5.out.trans (HBX.out.mono HB5.out.size)
      have hsA : ∀ w', (∃ k, w' = w7.drewN k) → Calls Try.prog 17 #[.slice none 0 0, .slice none 0 0] w' fun e w'' => e = .returned (.bool true) ∧ ∃ k, w'' = w7.drewN k := by
        rintro _ ⟨k, rfl⟩
        exact (same_self _ _ _ _ _ _ _ [] (nil_sl _ _) (nil_sl _ _)).mono fun e w'' ⟨h1, m, h2⟩ => ⟨h1, k + m, by rw [h2, drewN_add]⟩
      have hbk : ∀ w', (∃ k, w' = w7.drewN k) → Calls Try.prog 18 #[.slice (some ⟨w.heap.size, 0, none⟩) n (n + 2), .slice a n c] w' fun e w'' => e = .returned (.bool true) ∧ ∃ k, w'' = w7.drewN k := by
        rintro _ ⟨k, rfl⟩
        exact (back_calls _ w.heap.size a n c (nums d) (ho7.drewN k) ((HS.out.keep hb7).drewN k) hd).mono fun e w'' ⟨h1, m, h2⟩ => ⟨h1, k + m, by rw [h2, drewN_add]⟩
      have HSA := Lib.hid hsA
      have HBK := Lib.hid hbk
      have HO7 := Lib.hid ho7
      have HB7 := Lib.hid hb7
      have HDW : ∃ k, w7 = w7.drewN k := ⟨0, rfl⟩
      clear hsA hbk ho7 hb7 HOX HBX
      go_wp2_with (first
        | (go_at_call 17; (with_reducible refine (HSA.out _ HDW).mono ?_); rintro e wz ⟨rfl, hd⟩; (have HDW := hd); clear hd)
        | (go_at_call 18; (with_reducible refine (HBK.out _ HDW).mono ?_); rintro e wz ⟨rfl, hd⟩; (have HDW := hd); clear hd))
      obtain ⟨k8, rfl⟩ := HDW
      have ho8 := HO7.out.drewN k8
      have hb8 := below_drewN HB7.out k8
      clear HSA HBK HO7 HB7
      generalize w7.drewN k8 = w8 at ho8 hb8 ⊢
      have HO8 := Lib.hid ho8
      have HB8 := Lib.hid hb8
      clear ho8 hb8
      go_loopw [15] (fun iv wr => ∃ (i : Nat) (zo : List Int), iv = .int .i64 (i : Nat) ∧ i ≤ n ∧ zo.length = n + 2 ∧ RowI .u8 5 wr w.heap.size zo ∧ Below w.heap.size w wr) (fun iv _ => n - (intOf iv).toNat)
      case atStart => exact ⟨0, _, rfl, Nat.zero_le _, by rw [List.length_append, nums_len, HNL.out]; rfl, HO8.out, HB8.out⟩
      case round =>
        obtain ⟨i, zo, rfl, hi, hzo, ho, hb⟩ := hrel
        have HZO := Lib.hid hzo
        have HO := Lib.hid ho
        have HB := Lib.hid hb
        clear hzo ho hb HO8 HB8
        by_cases hin : i < n
        · have c0 := HO.out.cell i (by rw [HZO.out]; omega)
          have hfz := HO.out.frozen i
          have hlt := HO.out.lt
          go_wp2
          go_roundw
          case rel => exact ⟨i + 1, zo.set i 255, by go_num, by omega, by rw [List.length_set]; exact HZO.out, HO.out.set i 255, HB.out.setCell (p := ⟨w.heap.size, i, none⟩) (Nat.le_refl _) _⟩
          case measure => simp [intOf]; omega
        · rename World => w9
          have hsB := same_self w9 none 0 0 none 0 0 [] (nil_sl _ _) (nil_sl _ _)
          have HSB := Lib.hid hsB
          clear hsB
          go_wp2_with (go_at_call 17; (with_reducible refine HSB.out.mono ?_); rintro e wz ⟨rfl, m, rfl⟩)
          go_ret
          exact ⟨rfl, below_drewN HB.out _⟩
theorem builds_go (w : World) (a : Option Addr) (n c : Nat) (z : List Int) (h : IsRow .u8 w a n c z) (hb : c * 1 ≤ 140737488351232) (N : Int) (hN : (Lit.int .i64 N).wf = true) :
    Calls Try.prog 4 #[.slice a n c, .int .i64 N] w fun e w' => e = .returned (.bool true) ∧ Below w.heap.size w w' := by
  obtain ⟨hsl, hnil, hwf⟩ := h.sl
  have hnum : nums (bytesZ (z.take n)) = z.take n := nums_bytesZ (fun x hx => wf_u8 (hwf x hx))
  rw [← hnum] at hsl
  have hle := hsl.le
  by_cases he : bErr (bytesZ (z.take n)) N = 0
  · obtain ⟨k, rfl, h1, h2, h3⟩ := bErr_ok he
    exact builds_yes w a n c _ k hsl hnil h2 h3 h1
  · exact builds_no w a n c _ N hsl (by omega) he
end Go.Proofs.Ytpphjiialgmidaa
