/- RankTold: a changed count, a cut: told; what Open takes Build makes. -/
import Derived.Test.YtpphjiialgmidaaRkTo
import Derived.Test.YtpphjiialgmidaaRankJoins
set_option linter.unusedVariables false
set_option linter.unusedSimpArgs false
namespace Go.Tk
open Go Go.RowKit
theorem cut_val2 (z : Int) (n : Nat) (h0 : 0 < n) (hn : n ≤ 1000000000) : ∃ m : Nat, wrap64 ((IntKind.u64.wrap z).tmod (n : Int)) = (m : Int) ∧ m < n := by
  have h0 : 0 ≤ IntKind.u64.wrap z := by rw [IntKind.wrap_u64]; omega
  rw [Int.tmod_eq_emod_of_nonneg h0]
  have h1 := Int.emod_nonneg (IntKind.u64.wrap z) (b := (n : Int)) (by omega)
  have h2 := Int.emod_lt_of_pos (IntKind.u64.wrap z) (b := (n : Int)) (by omega)
  refine ⟨(IntKind.u64.wrap z % (n : Int)).toNat, ?_, by omega⟩
  rw [Int.toNat_of_nonneg h1]
  generalize IntKind.u64.wrap z % (n : Int) = y at *
  unfold wrap64
  omega
theorem xor_byte (x y : Nat) (hx : x < 256) (hy : y < 256) : bits .xor .u8 (x : Int) (y : Int) = ((x ^^^ y : Nat) : Int) ∧ x ^^^ y < 256 ∧ (x ^^^ y = x ↔ y = 0) := by
  have key : (BitVec.ofInt 8 (x : Int) ^^^ BitVec.ofInt 8 (y : Int)).toNat = x ^^^ y := by
    rw [BitVec.toNat_xor, BitVec.toNat_ofInt, BitVec.toNat_ofInt]
    have e1 : ((x : Int) % ((2 ^ 8 : Nat) : Int)).toNat = x := by omega
    have e2 : ((y : Int) % ((2 ^ 8 : Nat) : Int)).toNat = y := by omega
    rw [e1, e2]
  have hb : x ^^^ y < 2 ^ 8 := Nat.xor_lt_two_pow hx hy
  refine ⟨?_, hb, fun h => ?_, fun h => by rw [h, Nat.xor_zero]⟩
  · show IntKind.u8.wrap ((BitVec.ofInt 8 (x : Int) ^^^ BitVec.ofInt 8 (y : Int)).toNat : Nat) = _
    rw [key, IntKind.wrap_u8]
    omega
  · have : x ^^^ (x ^^^ y) = x ^^^ x := congrArg (x ^^^ ·) h
    rw [← Nat.xor_assoc, Nat.xor_self, Nat.zero_xor] at this
    exact this
theorem ow_bytes {e base : Nat} {w : World} {v : Value} {z : List Int} {l : List UInt8} (h : Ow .u8 e base w v z) (hz : z = nums l) : ∃ a c bs, bs = l ∧ v = .slice a bs.length c ∧ SlI .u8 w a bs.length c (nums bs) ∧ (a = none → c = 0) := by
  subst hz
  obtain ⟨a, c, rfl, hs, _⟩ := h.sl
  refine ⟨a, c, l, rfl, by rw [nums_len], ?_, fun e => by subst e; exact h.nil_cap⟩
  rwa [nums_len] at hs
end Go.Tk
namespace Go.Proofs.Ytpphjiialgmidaa
open Go.RowKit Go.Tk
set_option maxRecDepth 100000 in
set_option maxHeartbeats 8000000 in
theorem told_go (w : World) (a : Option Addr) (n c : Nat) (l : List Bool) (h : SlB w a n c l) (hc : c ≤ 140737488351232) (at_ : Int) (hat : (Lit.int .i64 at_).wf = true) (by_ : Int) (hby : 0 ≤ by_ ∧ by_ < 256) (a2 : Option Addr) (c2 : Nat) (bs : List UInt8) (h2 : SlI .u8 w a2 bs.length c2 (nums bs)) (hb2 : bs.length ≤ 140737488351232) (hnil2 : a2 = none → c2 = 0) :
    Calls Try.prog 8 #[.slice a n c, .int .i64 at_, .int .u8 by_, .slice a2 bs.length c2] w fun e w' => e = .returned (.bool true) ∧ Below w.heap.size w w' := by
  have hnc := h.le
  by_cases hbig : 67108864 < n
  · clear h h2
    go_enter Try.func8, Try.ntmps8
    go_wp2_with (go_at_call 24; (with_reducible refine (works_calls _).mono ?_); rintro e w1 ⟨rfl, hb⟩; (have HB := Lib.hid hb); clear hb)
    go_ret
    exact ⟨rfl, HB.out⟩
  have hn : n ≤ 67108864 := by omega
  have hln := h.len
  have hpk := fun w' h' => packed_calls w' a n c l h' hn
  have hl8 : (packB l).length = (n + 7) / 8 := by rw [pack_len, hln]
  have hpp : padB (packB l) n = true := by rw [← hln]; exact pack_pad l
  obtain ⟨d, hd⟩ : ∃ d, d = packB l := ⟨_, rfl⟩
  simp only [← hd] at hpk
  rw [← hd] at hl8 hpp
  have hlp : (nums d).length = (n + 7) / 8 := by rw [nums_len, hl8]
  have hbd := fun w' g hs => build_yes w' (some ⟨g, 0, none⟩) ((n + 7) / 8) ((n + 7) / 8) d n hs hl8 hpp hn
  have hEb : enO d n ≤ 100000000 := by have := cnt_le d n; unfold enO mkO smO grO; omega
  have hE8 : 8 ≤ enO d n := by unfold enO mkO smO grO; omega
  have hgr : grO d = 8 + (n + 7) / 8 := by unfold grO; rw [hl8]
  have hgrE : grO d ≤ enO d n := by unfold enO mkO smO; omega
  have hcut := fun i x y hi => open_cut (i := i) (x := x) (y := y) hl8 hn hi
  have hset := fun j x y u h1 h2' hu => open_set (j := j) (x := x) (y := y) (u := u) hl8 hpp hn h1 h2' hu
  have hopw := fun w' a' c' hs => open_wh w' a' c' d n hl8 hpp hn hs
  have hwl := wh_len' d n
  obtain ⟨W, hW⟩ : ∃ W, W = whB d n := ⟨_, rfl⟩
  obtain ⟨E, hE⟩ : ∃ E, E = enO d n := ⟨_, rfl⟩
  obtain ⟨G, hG⟩ : ∃ G, G = grO d := ⟨_, rfl⟩
  rw [← hG] at hgr hgrE hset
  rw [← hE] at hbd hEb hE8 hgrE hcut hset hwl
  rw [← hW] at hbd hcut hset hopw hwl
  obtain ⟨q8, hq8⟩ : ∃ q, q = (n + 7) / 8 := ⟨_, rfl⟩
  rw [← hq8] at hpk hlp hbd hgr
  have hqi : ((n : Int) + 7) / 8 = (q8 : Int) := by omega
  have hq8b : q8 ≤ 8388608 := by omega
  have H := Lib.hid h
  have H2 := Lib.hid h2
  have HPK := Lib.hid hpk
  have HLP := Lib.hid hlp
  have HBD := Lib.hid hbd
  have HCUT := Lib.hid hcut
  have HSET := Lib.hid hset
  have HOPW := Lib.hid hopw
  have HWL := Lib.hid hwl
  have HGR := Lib.hid hgr
  have HNIL := Lib.hid hnil2
  clear h h2 hln hpk hl8 hpp hd hlp hbd hcut hset hopw hwl hW hE hG hq8 hgr hbig hnil2
  go_enter Try.func8, Try.ntmps8
  go_upto_region 6 with (first
    | (go_at_call 24; (with_reducible refine (works_calls _).mono ?_); rintro e w1 ⟨rfl, hb⟩; (have HB := Lib.hid hb); clear hb)
    | (go_at_call 20; (with_reducible refine (HPK.out _ (H.out.keep HB.out)).mono ?_); rintro e w2 ⟨g, rfl, hg, hr, hb⟩; (have HR := Lib.hid hr); (have HB2 := Lib.hid (HB.out.trans (hb.mono HB.out.size))); clear hg hr hb)
    | (go_at_call 14; (with_reducible refine (HBD.out _ _ (row_sl HR.out HLP.out (by omega))).mono ?_); rintro e w3 ⟨g3, rfl, hg3, hr3, hb3⟩; (have HR3 := Lib.hid hr3); (have HB3 := Lib.hid (HB2.out.trans (hb3.mono HB2.out.size))); clear hg3 hr3 hb3))
  clear HB HB2 HR HPK HBD H
  have hWn : (nums W).length = E := by rw [nums_len, HWL.out]
  have hx3 := row_sl HR3.out hWn (by omega)
  have HX3 := Lib.hid hx3
  clear hx3
  go_upto_region 9 with (go_at_call 16; refine (num_calls _ _ (by omega) (by omega)).mono ?_; rintro e wz ⟨rfl, rfl⟩)
  obtain ⟨i, hi, hiE⟩ := cut_val2 at_ E (by omega) (by omega)
  rw [hi]
  clear hi
  have hpre := HX3.out.pre i (by omega)
  rw [nums_take] at hpre
  have HPRE := Lib.hid hpre
  clear hpre
  have hiE' : i ≤ E := by omega
  have hWn' : (nums (W.take i)).length = i := by rw [nums_len, List.length_take, HWL.out]; omega
  go_upto_region 10 with (first
    | (at_builtin; refine wpList_appJ rfl (.tmp 48) (.tmp 51) _ rfl .u8 w3.heap.size 5 _ 1 Try.underlying24 Try.infoU8 rfl _ [] rfl (ow_empty _ _ _ _ (Nat.le_refl _)) _ _ _ _ rfl (HPRE.out.alloc _) (by simp) (by simp; omega) (by simp; omega) (by simp) ?_; intro v5 w5 ow5 hg5 st5; (obtain ⟨a5, c5, bs5, hbs5, rfl, sl5, _⟩ := ow_bytes ow5 (List.nil_append _)); (have HBS5 := Lib.hid hbs5); (have HOA := Lib.hid (open_any w5 a5 c5 bs5 sl5)); (have HB5 := Lib.hid (mid_below hg5)); clear ow5 hg5 st5 hbs5 sl5)
    | (go_at_call 21; (with_reducible refine HOA.out.mono ?_); rintro e w6 ⟨p, v, x, y, rfl, hR, hev, hb, hc⟩; obtain ⟨j, rfl⟩ := hev.some (show (y : Int) ≠ 0 by have := HCUT.out i x y hiE (by rw [← HBS5.out]; exact hR); omega); (have HB6 := Lib.hid (HB5.out.trans (hb.mono HB5.out.size))); clear hR hev hb hc))
  have hb6 := HB3.out.trans (HB6.out.mono HB3.out.size)
  have hx6 := HX3.out.keep HB6.out
  have HX6 := Lib.hid hx6
  have HB6' := Lib.hid hb6
  clear hx6 hb6 HB6 HB5 HOA HPRE HX3 HR3 HB3 HBS5 HCUT
  go_upto_region 13 with (at_builtin; refine wpList_appJ rfl (.tmp 58) (.tmp 59) _ rfl .u8 w6.heap.size 5 _ 1 Try.underlying24 Try.infoU8 rfl _ [] rfl (ow_empty _ _ _ _ (Nat.le_refl _)) _ _ _ _ rfl (HX6.out.alloc _) (by simp) (by simp; omega) (by simp; omega) (by simp) ?_; intro v7 w7 ow7 hg7 st7; rw [List.nil_append] at ow7; (obtain ⟨a7, c7, hv7, sl7, hb7⟩ := ow7.sl); rw [hWn] at hv7 sl7; subst hv7; (have OW7 := Lib.hid ow7); (have HB7 := Lib.hid (HB6'.out.trans ((mid_below hg7).mono HB6'.out.size))); (have SL7 := Lib.hid sl7); clear ow7 hg7 st7 sl7 hb7)
  have hsz6 : w.heap.size ≤ w6.heap.size := HB6'.out.size
  clear HX6 HB6'
  obtain ⟨bN, rfl⟩ : ∃ bN : Nat, by_ = bN := ⟨by_.toNat, by omega⟩
  by_cases hEG : G < E
  · obtain ⟨k, hk, hkE⟩ := cut_val2 at_ (E - G) (by omega) (by omega)
    have hGi : ((E - G : Nat) : Int) = (E : Int) - (8 + (q8 : Int)) := by have := HGR.out; omega
    rw [hGi] at hk
    have hp : 8 + q8 + k < E := by have := HGR.out; omega
    have hpG : G ≤ 8 + q8 + k := by have := HGR.out; omega
    have hGq : ¬ (E : Int) ≤ 8 + (q8 : Int) := by have := HGR.out; omega
    obtain ⟨g7, rfl, hg7, hlt7, hcell, hfz, hst⟩ := OW7.out.at (8 + q8 + k) (by rw [hWn]; exact hp)
    have hgd : (nums W).getD (8 + q8 + k) 0 = ((W.getD (8 + q8 + k) 0).toNat : Int) := by
      rw [nums_getD W _ (by rw [HWL.out]; exact hp), List.getD_eq_getElem?_getD, List.getElem?_eq_getElem (by rw [HWL.out]; exact hp)]; rfl
    rw [hgd] at hcell
    obtain ⟨y0, hy0⟩ : ∃ y, y = (W.getD (8 + q8 + k) 0).toNat := ⟨_, rfl⟩
    rw [← hy0] at hcell
    have hy0b : y0 < 256 := by rw [hy0]; exact UInt8.toNat_lt _
    obtain ⟨hx1, hx2, hx3⟩ := xor_byte y0 bN hy0b (by omega)
    obtain ⟨q, hq⟩ : ∃ q, q = y0 ^^^ bN := ⟨_, rfl⟩
    rw [← hq] at hx1 hx2 hx3
    have hst2 := hst (q : Int)
    have hnq : (nums W).set (8 + q8 + k) (q : Int) = nums (W.set (8 + q8 + k) (UInt8.ofNat q)) := by
      rw [← nums_set, UInt8.toNat_ofNat', Nat.mod_eq_of_lt (show q < 2 ^ 8 from hx2)]
    rw [hnq] at hst2
    have hlw : (W.set (8 + q8 + k) (UInt8.ofNat q)).length = E := by rw [List.length_set, HWL.out]
    have HST := Lib.hid hst2
    have HNE := Lib.hid (show bN ≠ 0 → UInt8.ofNat q ≠ W.getD (8 + q8 + k) 0 from fun hb0 e => by
      have e2 := congrArg UInt8.toNat e
      rw [UInt8.toNat_ofNat', Nat.mod_eq_of_lt (show q < 2 ^ 8 from hx2), ← hy0] at e2
      exact hb0 (hx3.1 e2))
    have HEQ := Lib.hid (show bN = 0 → W.set (8 + q8 + k) (UInt8.ofNat q) = W from fun hb0 => by
      have e2 := hx3.2 hb0
      have e3 : UInt8.ofNat q = W.getD (8 + q8 + k) 0 := by apply UInt8.toNat_inj.1; rw [UInt8.toNat_ofNat', Nat.mod_eq_of_lt (show q < 2 ^ 8 from hx2), ← hy0]; exact e2
      rw [e3]
      apply List.ext_getElem?
      intro j
      by_cases hj : j = 8 + q8 + k
      · subst hj
        rw [List.getElem?_set_self (by rw [HWL.out]; exact hp), List.getD_eq_getElem?_getD, List.getElem?_eq_getElem (by rw [HWL.out]; exact hp)]; rfl
      · rw [List.getElem?_set_ne (fun e => hj e.symm)])
    have HLW := Lib.hid hlw
    clear hst hst2 hnq hgd hy0 hq hx3 hlw hGi
    go_upto_region 16 with fail
    have hb8 := HB7.out.setCell (p := ⟨g7, 8 + q8 + k, none⟩) (by simp only; omega) (.int .u8 (q : Int))
    obtain ⟨X, hX⟩ : ∃ X, X = W.set (8 + q8 + k) (UInt8.ofNat q) := ⟨_, rfl⟩
    have hst8 := HST.out
    rw [← hX] at hst8
    have hXl : X.length = E := by rw [hX]; exact HLW.out
    generalize w7.setCell ⟨g7, 8 + q8 + k, none⟩ (.int .u8 (q : Int)) = w8 at hb8 hst8 ⊢
    obtain ⟨a8, c8, e8, sl8, _⟩ := hst8.sl
    rw [nums_len] at e8 sl8
    simp only [Value.slice.injEq] at e8
    obtain ⟨rfl, hE9, rfl⟩ := e8
    clear hE9
    have HB8 := Lib.hid hb8
    have HXX := Lib.hid hX
    clear hst8 hb8 hcell hfz hx1 HST
    have hopen : Calls Try.prog 21 #[.slice (some ⟨g7, 0, none⟩) E c7] w8 fun e w' => ∃ p v, e = .returned (.tuple #[.pointer p, v]) ∧ ((bN = 0 ∧ v = .nilIface) ∨ (bN ≠ 0 ∧ ∃ i, v = .iface 90 (.pointer (some ⟨i, 0, none⟩)))) ∧ Below w8.heap.size w8 w' := by
      rw [← hXl]
      by_cases hb0 : bN = 0
      · have hXW : X = W := by rw [HXX.out]; exact HEQ.out hb0
        rw [hXW] at sl8 ⊢
        exact (HOPW.out w8 _ _ sl8).mono fun e w' ⟨gv, h1, h2, h3, h4⟩ => ⟨_, _, h1, .inl ⟨hb0, rfl⟩, h4⟩
      · refine (open_any w8 _ _ X sl8).mono fun e w' ⟨p, v, x, y, h1, h2, h3, h4, h5⟩ => ⟨p, v, h1, .inr ⟨hb0, ?_⟩, h4⟩
        rw [HXX.out] at h2
        have := HSET.out _ x y _ hpG hp (HNE.out hb0) h2
        exact h3.some (by omega)
    have HOP := Lib.hid hopen
    clear hopen sl8 hXl HXX HEQ HNE HSET
    by_cases hb0 : bN = 0
    · have e0 : ((bN : Int) == 0) = true := by simp; omega
      go_upto_region 19 with (go_at_call 21; (with_reducible refine HOP.out.mono ?_); rintro e w9 ⟨p9, v9, rfl, hc9, hb9⟩; (obtain rfl : v9 = .nilIface := (by rcases hc9 with ⟨_, h⟩ | ⟨h, _⟩; exact h; exact absurd hb0 h)); (have HBW := Lib.hid (HB8.out.trans (hb9.mono HB8.out.size))); clear hc9 hb9)
      clear HOP HB8 HB7 OW7 SL7
      have hs9 := H2.out.keep HBW.out
      have HOA := Lib.hid (open_any _ a2 c2 bs hs9)
      have HS9 := Lib.hid hs9
      clear hs9
      go_upto_region 20 with (go_at_call 21; (with_reducible refine HOA.out.mono ?_); rintro e wA ⟨p, v, x, y, rfl, hR, hev, hb, hc⟩; (have HR := Lib.hid hR); (have HEV := Lib.hid hev); (have HBA := Lib.hid (HBW.out.trans (hb.mono HBW.out.size))); (have HSA := Lib.hid (HS9.out.keep hb)); (have HC := Lib.hid hc); clear hR hev hb hc)
      clear HOA HS9 HBW
      by_cases hy : y ≠ 0
      · obtain ⟨j, rfl⟩ := HEV.out.some (show (y : Int) ≠ 0 by omega)
        clear HC HEV HR
        go_wp2_with fail
        go_ret
        exact ⟨rfl, HBA.out⟩
      obtain rfl : y = 0 := by simpa using hy
      have hev := HEV.out
      obtain rfl := hev.none
      obtain ⟨gv, rfl, hv⟩ : ∃ gv, p = some ⟨gv, 0, none⟩ ∧ VecAt wA gv a2 c2 bs (f4 bs 0) (f4 bs 4) := by
        rcases HC.out with ⟨h, _⟩ | ⟨_, h⟩
        · exact absurd rfl h
        · exact h
      obtain ⟨g1, g2, g3', g4, g5⟩ := open_is HR.out
      obtain ⟨b, o, rfl, _⟩ := HSA.out.cell 0 (by omega)
      have hct := HSA.out.cut 8 ((f4 bs 0 + 7) / 8) g2
      rw [nums_cut] at hct
      have hleN := HSA.out.le
      have hlen := len_calls hv
      have hbd2 := fun w' a' n' c' hs => build_yes w' a' n' c' (daB bs (f4 bs 0)) (f4 bs 0) hs g3' g4 g1
      have hEn : (enO (daB bs (f4 bs 0)) (f4 bs 0)) = bs.length := by rw [← wh_len', ← g5]
      rw [hEn, ← g5] at hbd2
      unfold daB at hbd2 g3'
      obtain ⟨D, hD⟩ : ∃ D, D = (bs.drop 8).take ((f4 bs 0 + 7) / 8) := ⟨_, rfl⟩
      rw [← hD] at hct hbd2 g3'
      obtain ⟨N, hN⟩ : ∃ N, N = f4 bs 0 := ⟨_, rfl⟩
      rw [← hN] at hlen hct hbd2 g1 g2 g3'
      obtain ⟨k9, hk9⟩ : ∃ k, k = (N + 7) / 8 := ⟨_, rfl⟩
      have hk9i : ((N : Int) + 7) / 8 = (k9 : Int) := by omega
      rw [← hk9] at hct g2 g3'
      have hk9b : k9 ≤ 8388608 := by omega
      have HLEN := Lib.hid hlen
      have HBD2 := Lib.hid hbd2
      have HD3 := Lib.hid g3'
      clear hev HEV HC hv hlen hbd2 g4 g5 hEn hD hN hk9 HR hy g3'
      obtain ⟨b8, h8⟩ : ∃ b : Prop, (c2 = 8) = b := ⟨_, rfl⟩
      rcases (show b8 = True ∨ b8 = False by by_cases h : c2 = 8; exact .inl (h8.symm.trans (eq_true h)); exact .inr (h8.symm.trans (eq_false h))) with rfl | rfl
      · rw [if_pos (of_eq_true h8)] at hct
        have HCT := Lib.hid hct
        clear hct
        go_upto_region 24 with (first
          | (go_at_call 26; (with_reducible refine HLEN.out.mono ?_); rintro e wz ⟨rfl, rfl⟩)
          | (at_builtin; refine wpList_appJ rfl (.tmp 107) (.tmp 113) _ rfl .u8 wA.heap.size 5 _ 1 Try.underlying24 Try.infoU8 rfl _ [] rfl (ow_empty _ _ _ _ (Nat.le_refl _)) _ _ _ _ rfl (HCT.out.alloc _) (by simp) (by simp; omega) (by simp; omega) (by simp) ?_; intro vB wB owB hgB stB; (obtain ⟨aB, cB, bsB, hbsB, rfl, slB, _⟩ := ow_bytes owB (List.nil_append _)); subst hbsB; (have SLB := Lib.hid slB); (have HBB := Lib.hid (mid_below hgB)); clear owB hgB stB slB)
          | (go_at_call 14; (with_reducible refine (HBD2.out _ _ _ _ SLB.out).mono ?_); rintro e wC ⟨gC, rfl, hgC, hrC, hbC⟩; (have HRC := Lib.hid hrC); (have HBC := Lib.hid (HBB.out.trans (hbC.mono HBB.out.size))); clear hgC hrC hbC))
        have hsC := HSA.out.keep HBC.out
        have hzC := row_sl HRC.out (nums_len bs) hb2
        have HSM := Lib.hid (same_self _ _ _ _ _ _ _ _ hzC hsC)
        clear hsC hzC
        go_wp2_with (first
          | (go_at_call 16; refine (num_calls _ _ (by omega) (by omega)).mono ?_; rintro e wz ⟨rfl, rfl⟩)
          | (go_at_call 17; (with_reducible refine HSM.out.mono ?_); rintro e wz ⟨rfl, m, rfl⟩))
        go_ret
        exact ⟨rfl, below_drewN (HBA.out.trans (HBC.out.mono HBA.out.size)) _⟩
      · rw [if_neg (of_eq_false h8)] at hct
        have HCT := Lib.hid hct
        clear hct
        go_upto_region 24 with (first
          | (go_at_call 26; (with_reducible refine HLEN.out.mono ?_); rintro e wz ⟨rfl, rfl⟩)
          | (at_builtin; refine wpList_appJ rfl (.tmp 107) (.tmp 113) _ rfl .u8 wA.heap.size 5 _ 1 Try.underlying24 Try.infoU8 rfl _ [] rfl (ow_empty _ _ _ _ (Nat.le_refl _)) _ _ _ _ rfl (HCT.out.alloc _) (by simp) (by simp; omega) (by simp; omega) (by simp) ?_; intro vB wB owB hgB stB; (obtain ⟨aB, cB, bsB, hbsB, rfl, slB, _⟩ := ow_bytes owB (List.nil_append _)); subst hbsB; (have SLB := Lib.hid slB); (have HBB := Lib.hid (mid_below hgB)); clear owB hgB stB slB)
          | (go_at_call 14; (with_reducible refine (HBD2.out _ _ _ _ SLB.out).mono ?_); rintro e wC ⟨gC, rfl, hgC, hrC, hbC⟩; (have HRC := Lib.hid hrC); (have HBC := Lib.hid (HBB.out.trans (hbC.mono HBB.out.size))); clear hgC hrC hbC))
        have hsC := HSA.out.keep HBC.out
        have hzC := row_sl HRC.out (nums_len bs) hb2
        have HSM := Lib.hid (same_self _ _ _ _ _ _ _ _ hzC hsC)
        clear hsC hzC
        go_wp2_with (first
          | (go_at_call 16; refine (num_calls _ _ (by omega) (by omega)).mono ?_; rintro e wz ⟨rfl, rfl⟩)
          | (go_at_call 17; (with_reducible refine HSM.out.mono ?_); rintro e wz ⟨rfl, m, rfl⟩))
        go_ret
        exact ⟨rfl, below_drewN (HBA.out.trans (HBC.out.mono HBA.out.size)) _⟩
    · have e0 : ((bN : Int) == 0) = false := by simp; omega
      go_upto_region 19 with (go_at_call 21; (with_reducible refine HOP.out.mono ?_); rintro e w9 ⟨p9, v9, rfl, hc9, hb9⟩; (obtain ⟨i9, rfl⟩ : ∃ i, v9 = .iface 90 (.pointer (some ⟨i, 0, none⟩)) := (by rcases hc9 with ⟨h, _⟩ | ⟨_, h⟩; exact absurd h hb0; exact h)); (have HBW := Lib.hid (HB8.out.trans (hb9.mono HB8.out.size))); clear hc9 hb9)
      clear HOP HB8 HB7 OW7 SL7
      have hs9 := H2.out.keep HBW.out
      have HOA := Lib.hid (open_any _ a2 c2 bs hs9)
      have HS9 := Lib.hid hs9
      clear hs9
      go_upto_region 20 with (go_at_call 21; (with_reducible refine HOA.out.mono ?_); rintro e wA ⟨p, v, x, y, rfl, hR, hev, hb, hc⟩; (have HR := Lib.hid hR); (have HEV := Lib.hid hev); (have HBA := Lib.hid (HBW.out.trans (hb.mono HBW.out.size))); (have HSA := Lib.hid (HS9.out.keep hb)); (have HC := Lib.hid hc); clear hR hev hb hc)
      clear HOA HS9 HBW
      by_cases hy : y ≠ 0
      · obtain ⟨j, rfl⟩ := HEV.out.some (show (y : Int) ≠ 0 by omega)
        clear HC HEV HR
        go_wp2_with fail
        go_ret
        exact ⟨rfl, HBA.out⟩
      obtain rfl : y = 0 := by simpa using hy
      have hev := HEV.out
      obtain rfl := hev.none
      obtain ⟨gv, rfl, hv⟩ : ∃ gv, p = some ⟨gv, 0, none⟩ ∧ VecAt wA gv a2 c2 bs (f4 bs 0) (f4 bs 4) := by
        rcases HC.out with ⟨h, _⟩ | ⟨_, h⟩
        · exact absurd rfl h
        · exact h
      obtain ⟨g1, g2, g3', g4, g5⟩ := open_is HR.out
      obtain ⟨b, o, rfl, _⟩ := HSA.out.cell 0 (by omega)
      have hct := HSA.out.cut 8 ((f4 bs 0 + 7) / 8) g2
      rw [nums_cut] at hct
      have hleN := HSA.out.le
      have hlen := len_calls hv
      have hbd2 := fun w' a' n' c' hs => build_yes w' a' n' c' (daB bs (f4 bs 0)) (f4 bs 0) hs g3' g4 g1
      have hEn : (enO (daB bs (f4 bs 0)) (f4 bs 0)) = bs.length := by rw [← wh_len', ← g5]
      rw [hEn, ← g5] at hbd2
      unfold daB at hbd2 g3'
      obtain ⟨D, hD⟩ : ∃ D, D = (bs.drop 8).take ((f4 bs 0 + 7) / 8) := ⟨_, rfl⟩
      rw [← hD] at hct hbd2 g3'
      obtain ⟨N, hN⟩ : ∃ N, N = f4 bs 0 := ⟨_, rfl⟩
      rw [← hN] at hlen hct hbd2 g1 g2 g3'
      obtain ⟨k9, hk9⟩ : ∃ k, k = (N + 7) / 8 := ⟨_, rfl⟩
      have hk9i : ((N : Int) + 7) / 8 = (k9 : Int) := by omega
      rw [← hk9] at hct g2 g3'
      have hk9b : k9 ≤ 8388608 := by omega
      have HLEN := Lib.hid hlen
      have HBD2 := Lib.hid hbd2
      have HD3 := Lib.hid g3'
      clear hev HEV HC hv hlen hbd2 g4 g5 hEn hD hN hk9 HR hy g3'
      obtain ⟨b8, h8⟩ : ∃ b : Prop, (c2 = 8) = b := ⟨_, rfl⟩
      rcases (show b8 = True ∨ b8 = False by by_cases h : c2 = 8; exact .inl (h8.symm.trans (eq_true h)); exact .inr (h8.symm.trans (eq_false h))) with rfl | rfl
      · rw [if_pos (of_eq_true h8)] at hct
        have HCT := Lib.hid hct
        clear hct
        go_upto_region 24 with (first
          | (go_at_call 26; (with_reducible refine HLEN.out.mono ?_); rintro e wz ⟨rfl, rfl⟩)
          | (at_builtin; refine wpList_appJ rfl (.tmp 107) (.tmp 113) _ rfl .u8 wA.heap.size 5 _ 1 Try.underlying24 Try.infoU8 rfl _ [] rfl (ow_empty _ _ _ _ (Nat.le_refl _)) _ _ _ _ rfl (HCT.out.alloc _) (by simp) (by simp; omega) (by simp; omega) (by simp) ?_; intro vB wB owB hgB stB; (obtain ⟨aB, cB, bsB, hbsB, rfl, slB, _⟩ := ow_bytes owB (List.nil_append _)); subst hbsB; (have SLB := Lib.hid slB); (have HBB := Lib.hid (mid_below hgB)); clear owB hgB stB slB)
          | (go_at_call 14; (with_reducible refine (HBD2.out _ _ _ _ SLB.out).mono ?_); rintro e wC ⟨gC, rfl, hgC, hrC, hbC⟩; (have HRC := Lib.hid hrC); (have HBC := Lib.hid (HBB.out.trans (hbC.mono HBB.out.size))); clear hgC hrC hbC))
        have hsC := HSA.out.keep HBC.out
        have hzC := row_sl HRC.out (nums_len bs) hb2
        have HSM := Lib.hid (same_self _ _ _ _ _ _ _ _ hzC hsC)
        clear hsC hzC
        go_wp2_with (first
          | (go_at_call 16; refine (num_calls _ _ (by omega) (by omega)).mono ?_; rintro e wz ⟨rfl, rfl⟩)
          | (go_at_call 17; (with_reducible refine HSM.out.mono ?_); rintro e wz ⟨rfl, m, rfl⟩))
        go_ret
        exact ⟨rfl, below_drewN (HBA.out.trans (HBC.out.mono HBA.out.size)) _⟩
      · rw [if_neg (of_eq_false h8)] at hct
        have HCT := Lib.hid hct
        clear hct
        go_upto_region 24 with (first
          | (go_at_call 26; (with_reducible refine HLEN.out.mono ?_); rintro e wz ⟨rfl, rfl⟩)
          | (at_builtin; refine wpList_appJ rfl (.tmp 107) (.tmp 113) _ rfl .u8 wA.heap.size 5 _ 1 Try.underlying24 Try.infoU8 rfl _ [] rfl (ow_empty _ _ _ _ (Nat.le_refl _)) _ _ _ _ rfl (HCT.out.alloc _) (by simp) (by simp; omega) (by simp; omega) (by simp) ?_; intro vB wB owB hgB stB; (obtain ⟨aB, cB, bsB, hbsB, rfl, slB, _⟩ := ow_bytes owB (List.nil_append _)); subst hbsB; (have SLB := Lib.hid slB); (have HBB := Lib.hid (mid_below hgB)); clear owB hgB stB slB)
          | (go_at_call 14; (with_reducible refine (HBD2.out _ _ _ _ SLB.out).mono ?_); rintro e wC ⟨gC, rfl, hgC, hrC, hbC⟩; (have HRC := Lib.hid hrC); (have HBC := Lib.hid (HBB.out.trans (hbC.mono HBB.out.size))); clear hgC hrC hbC))
        have hsC := HSA.out.keep HBC.out
        have hzC := row_sl HRC.out (nums_len bs) hb2
        have HSM := Lib.hid (same_self _ _ _ _ _ _ _ _ hzC hsC)
        clear hsC hzC
        go_wp2_with (first
          | (go_at_call 16; refine (num_calls _ _ (by omega) (by omega)).mono ?_; rintro e wz ⟨rfl, rfl⟩)
          | (go_at_call 17; (with_reducible refine HSM.out.mono ?_); rintro e wz ⟨rfl, m, rfl⟩))
        go_ret
        exact ⟨rfl, below_drewN (HBA.out.trans (HBC.out.mono HBA.out.size)) _⟩
  · have hGq : (E : Int) ≤ 8 + (q8 : Int) := by have := HGR.out; omega
    go_upto_region 19 with fail
    have HBW := HB7
    clear HB7 OW7 SL7 HSET HOPW
    have hs9 := H2.out.keep HBW.out
    have HOA := Lib.hid (open_any _ a2 c2 bs hs9)
    have HS9 := Lib.hid hs9
    clear hs9
    go_upto_region 20 with (go_at_call 21; (with_reducible refine HOA.out.mono ?_); rintro e wA ⟨p, v, x, y, rfl, hR, hev, hb, hc⟩; (have HR := Lib.hid hR); (have HEV := Lib.hid hev); (have HBA := Lib.hid (HBW.out.trans (hb.mono HBW.out.size))); (have HSA := Lib.hid (HS9.out.keep hb)); (have HC := Lib.hid hc); clear hR hev hb hc)
    clear HOA HS9 HBW
    by_cases hy : y ≠ 0
    · obtain ⟨j, rfl⟩ := HEV.out.some (show (y : Int) ≠ 0 by omega)
      clear HC HEV HR
      go_wp2_with fail
      go_ret
      exact ⟨rfl, HBA.out⟩
    obtain rfl : y = 0 := by simpa using hy
    have hev := HEV.out
    obtain rfl := hev.none
    obtain ⟨gv, rfl, hv⟩ : ∃ gv, p = some ⟨gv, 0, none⟩ ∧ VecAt wA gv a2 c2 bs (f4 bs 0) (f4 bs 4) := by
      rcases HC.out with ⟨h, _⟩ | ⟨_, h⟩
      · exact absurd rfl h
      · exact h
    obtain ⟨g1, g2, g3', g4, g5⟩ := open_is HR.out
    obtain ⟨b, o, rfl, _⟩ := HSA.out.cell 0 (by omega)
    have hct := HSA.out.cut 8 ((f4 bs 0 + 7) / 8) g2
    rw [nums_cut] at hct
    have hleN := HSA.out.le
    have hlen := len_calls hv
    have hbd2 := fun w' a' n' c' hs => build_yes w' a' n' c' (daB bs (f4 bs 0)) (f4 bs 0) hs g3' g4 g1
    have hEn : (enO (daB bs (f4 bs 0)) (f4 bs 0)) = bs.length := by rw [← wh_len', ← g5]
    rw [hEn, ← g5] at hbd2
    unfold daB at hbd2 g3'
    obtain ⟨D, hD⟩ : ∃ D, D = (bs.drop 8).take ((f4 bs 0 + 7) / 8) := ⟨_, rfl⟩
    rw [← hD] at hct hbd2 g3'
    obtain ⟨N, hN⟩ : ∃ N, N = f4 bs 0 := ⟨_, rfl⟩
    rw [← hN] at hlen hct hbd2 g1 g2 g3'
    obtain ⟨k9, hk9⟩ : ∃ k, k = (N + 7) / 8 := ⟨_, rfl⟩
    have hk9i : ((N : Int) + 7) / 8 = (k9 : Int) := by omega
    rw [← hk9] at hct g2 g3'
    have hk9b : k9 ≤ 8388608 := by omega
    have HLEN := Lib.hid hlen
    have HBD2 := Lib.hid hbd2
    have HD3 := Lib.hid g3'
    clear hev HEV HC hv hlen hbd2 g4 g5 hEn hD hN hk9 HR hy g3'
    obtain ⟨b8, h8⟩ : ∃ b : Prop, (c2 = 8) = b := ⟨_, rfl⟩
    rcases (show b8 = True ∨ b8 = False by by_cases h : c2 = 8; exact .inl (h8.symm.trans (eq_true h)); exact .inr (h8.symm.trans (eq_false h))) with rfl | rfl
    · rw [if_pos (of_eq_true h8)] at hct
      have HCT := Lib.hid hct
      clear hct
      go_upto_region 24 with (first
        | (go_at_call 26; (with_reducible refine HLEN.out.mono ?_); rintro e wz ⟨rfl, rfl⟩)
        | (at_builtin; refine wpList_appJ rfl (.tmp 107) (.tmp 113) _ rfl .u8 wA.heap.size 5 _ 1 Try.underlying24 Try.infoU8 rfl _ [] rfl (ow_empty _ _ _ _ (Nat.le_refl _)) _ _ _ _ rfl (HCT.out.alloc _) (by simp) (by simp; omega) (by simp; omega) (by simp) ?_; intro vB wB owB hgB stB; (obtain ⟨aB, cB, bsB, hbsB, rfl, slB, _⟩ := ow_bytes owB (List.nil_append _)); subst hbsB; (have SLB := Lib.hid slB); (have HBB := Lib.hid (mid_below hgB)); clear owB hgB stB slB)
        | (go_at_call 14; (with_reducible refine (HBD2.out _ _ _ _ SLB.out).mono ?_); rintro e wC ⟨gC, rfl, hgC, hrC, hbC⟩; (have HRC := Lib.hid hrC); (have HBC := Lib.hid (HBB.out.trans (hbC.mono HBB.out.size))); clear hgC hrC hbC))
      have hsC := HSA.out.keep HBC.out
      have hzC := row_sl HRC.out (nums_len bs) hb2
      have HSM := Lib.hid (same_self _ _ _ _ _ _ _ _ hzC hsC)
      clear hsC hzC
      go_wp2_with (first
        | (go_at_call 16; refine (num_calls _ _ (by omega) (by omega)).mono ?_; rintro e wz ⟨rfl, rfl⟩)
        | (go_at_call 17; (with_reducible refine HSM.out.mono ?_); rintro e wz ⟨rfl, m, rfl⟩))
      go_ret
      exact ⟨rfl, below_drewN (HBA.out.trans (HBC.out.mono HBA.out.size)) _⟩
    · rw [if_neg (of_eq_false h8)] at hct
      have HCT := Lib.hid hct
      clear hct
      go_upto_region 24 with (first
        | (go_at_call 26; (with_reducible refine HLEN.out.mono ?_); rintro e wz ⟨rfl, rfl⟩)
        | (at_builtin; refine wpList_appJ rfl (.tmp 107) (.tmp 113) _ rfl .u8 wA.heap.size 5 _ 1 Try.underlying24 Try.infoU8 rfl _ [] rfl (ow_empty _ _ _ _ (Nat.le_refl _)) _ _ _ _ rfl (HCT.out.alloc _) (by simp) (by simp; omega) (by simp; omega) (by simp) ?_; intro vB wB owB hgB stB; (obtain ⟨aB, cB, bsB, hbsB, rfl, slB, _⟩ := ow_bytes owB (List.nil_append _)); subst hbsB; (have SLB := Lib.hid slB); (have HBB := Lib.hid (mid_below hgB)); clear owB hgB stB slB)
        | (go_at_call 14; (with_reducible refine (HBD2.out _ _ _ _ SLB.out).mono ?_); rintro e wC ⟨gC, rfl, hgC, hrC, hbC⟩; (have HRC := Lib.hid hrC); (have HBC := Lib.hid (HBB.out.trans (hbC.mono HBB.out.size))); clear hgC hrC hbC))
      have hsC := HSA.out.keep HBC.out
      have hzC := row_sl HRC.out (nums_len bs) hb2
      have HSM := Lib.hid (same_self _ _ _ _ _ _ _ _ hzC hsC)
      clear hsC hzC
      go_wp2_with (first
        | (go_at_call 16; refine (num_calls _ _ (by omega) (by omega)).mono ?_; rintro e wz ⟨rfl, rfl⟩)
        | (go_at_call 17; (with_reducible refine HSM.out.mono ?_); rintro e wz ⟨rfl, m, rfl⟩))
      go_ret
      exact ⟨rfl, below_drewN (HBA.out.trans (HBC.out.mono HBA.out.size)) _⟩
end Go.Proofs.Ytpphjiialgmidaa
