/- VaI VaR, laid as one. -/
import Derived.Test.YtlhcejbimlilaaaGreatDoorVaH
import Derived.Test.YtlhcejbimlilaaaGreatDoorVaF
set_option linter.unusedVariables false
set_option linter.unusedSimpArgs false
/- The program's hex, base64. -/
namespace Go.Tk
open Go Go.RowKit
def hxT : List UInt8 := [48, 49, 50, 51, 52, 53, 54, 55, 56, 57, 65, 66, 67, 68, 69, 70]
def hxV (c : UInt8) : Int := Lib.indexByte hxT c
/-- The bytes that signs tell, two a byte. -/
def hexP : List UInt8 → Option (List UInt8)
  | [] => some []
  | [_] => none
  | a :: b :: t => if hxV a < 0 ∨ hxV b < 0 then none else (hexP t).map (UInt8.ofNat (hxV a * 16 + hxV b).toNat :: ·)
theorem indexByte_lt (l : List UInt8) (c : UInt8) : Lib.indexByte l c < l.length := by
  induction l with
  | nil => simp [Lib.indexByte]
  | cons x l ih =>
    simp only [Lib.indexByte]
    split
    · simp only [List.length_cons]; omega
    · split
      · simp only [List.length_cons]; omega
      · simp only [List.length_cons]; omega
theorem hxV_bd (c : UInt8) : -1 ≤ hxV c ∧ hxV c ≤ 15 := by
  have h1 := Lib.indexByte_ge hxT c
  have h2 := indexByte_lt hxT c
  unfold hxV
  simp [hxT] at h2
  exact ⟨h1, by simp only [hxT]; omega⟩
theorem hexP_odd : ∀ (l : List UInt8), l.length % 2 = 1 → hexP l = none
  | [], h => by simp at h
  | [_], _ => rfl
  | a :: b :: t, h => by
    simp only [hexP]
    split
    · rfl
    · rw [hexP_odd t (by simp at h; omega)]; rfl
theorem hexP_bad {a b : UInt8} {t : List UInt8} (h : hxV a < 0 ∨ hxV b < 0) : hexP (a :: b :: t) = none := by simp only [hexP]; rw [if_pos h]
theorem hexP_ok {a b : UInt8} {t : List UInt8} (h1 : 0 ≤ hxV a) (h2 : 0 ≤ hxV b) : hexP (a :: b :: t) = (hexP t).map (UInt8.ofNat (hxV a * 16 + hxV b).toNat :: ·) := by simp only [hexP]; rw [if_neg (by omega)]
theorem or_i64 (x y : Nat) (hx : x < 4611686018427387904) (hy : y < 4611686018427387904) : bits .or .i64 (x : Int) (y : Int) = ((x ||| y : Nat) : Int) := by
  have key : (BitVec.ofInt 64 (x : Int) ||| BitVec.ofInt 64 (y : Int)).toNat = x ||| y := by
    rw [BitVec.toNat_or, BitVec.toNat_ofInt, BitVec.toNat_ofInt]
    have e1 : ((x : Int) % ((2 ^ 64 : Nat) : Int)).toNat = x := by omega
    have e2 : ((y : Int) % ((2 ^ 64 : Nat) : Int)).toNat = y := by omega
    rw [e1, e2]
  show IntKind.i64.wrap ((BitVec.ofInt 64 (x : Int) ||| BitVec.ofInt 64 (y : Int)).toNat : Nat) = _
  rw [key, IntKind.wrap_i64]
  have : x ||| y < 2 ^ 62 := Nat.or_lt_two_pow hx hy
  omega
theorem or_i64_add (x y : Int) (k : Nat) (hx0 : 0 ≤ x) (hx : x * 2 ^ k < 4611686018427387904) (hy0 : 0 ≤ y) (hy : y < 2 ^ k) (hk : 2 ^ k < 4611686018427387904) : bits .or .i64 (x * 2 ^ k) y = x * 2 ^ k + y := by
  obtain ⟨a, rfl⟩ : ∃ a : Nat, x = a := ⟨x.toNat, by omega⟩
  obtain ⟨b, rfl⟩ : ∃ b : Nat, y = b := ⟨y.toNat, by omega⟩
  have e : (a : Int) * 2 ^ k = ((a * 2 ^ k : Nat) : Int) := by rw [Int.natCast_mul, Int.natCast_pow]; rfl
  have hb : b < 2 ^ k := by exact_mod_cast hy
  have h1 : a * 2 ^ k < 4611686018427387904 := by
    rw [e] at hx
    obtain ⟨m, hm⟩ : ∃ m, m = a * 2 ^ k := ⟨_, rfl⟩
    rw [← hm] at hx ⊢
    omega
  rw [e, or_i64 _ _ h1 (by omega), Nat.mul_comm, ← Nat.two_pow_add_eq_or_of_lt hb, Int.natCast_add]
theorem nums_one (acc : List UInt8) (z : Int) (h0 : 0 ≤ z) (h1 : z < 256) : nums (acc ++ [UInt8.ofNat z.toNat]) = nums acc ++ [z] := by
  rw [nums_append]
  congr 1
  unfold nums
  simp
  omega
end Go.Tk
namespace Go.Proofs.YtlhcejbimlilaaaGreatDoor
open Go.RowKit Go.Tk
theorem idx_calls (t : ByteArray) (b : UInt8) (w : World) : Calls Tryz.prog 81 #[.string t, .int .u8 (b.toNat : Int)] w fun e w' => e = .returned (.int .i64 (Lib.indexByte t.data.toList b)) ∧ w = w' :=
  (Tryz.strings_IndexByte t (b.toNat : Int) w).mono fun _ _ ⟨h, h2⟩ => ⟨by rw [h]; simp, h2.symm⟩
set_option maxHeartbeats 1000000 in
theorem hex_calls (s : ByteArray) (w : World) (hs : s.size ≤ 1000000000) : Calls Tryz.prog 33 #[.string s] w fun e w' => e = .returned (.tuple #[.string ⟨((hexP (gtP s.data.toList)).getD []).toArray⟩, .bool (hexP (gtP s.data.toList)).isSome]) ∧ Below w.heap.size w w' := by
  have hgr := fun w => great_calls s w (by omega)
  have hll : (gtP s.data.toList).length = s.size := by unfold gtP; rw [List.length_map, Lib.size_eq]
  obtain ⟨U, hU⟩ : ∃ U : ByteArray, U = ⟨(gtP s.data.toList).toArray⟩ := ⟨_, rfl⟩
  have hUd : U.data.toList = gtP s.data.toList := by rw [hU]
  rw [← hU] at hgr
  rw [← hUd] at hll ⊢
  have hUs : U.size = s.size := by rw [Lib.size_eq, hll]
  have HGR := Lib.hid hgr
  by_cases hodd : s.size % 2 = 1
  · rw [hexP_odd U.data.toList (by rw [hll]; exact hodd)]
    have ho : (((s.size : Int) % 2) != 0) = true := by rw [bne_iff_ne]; omega
    clear hgr hll hU hUd hUs hodd
    go_enter Tryz.func33, Tryz.ntmps33
    go_wp2_with fail
    go_ret2
    exact ⟨rfl, Below.refl _ _⟩
  · have ho : (((s.size : Int) % 2) != 0) = false := by rw [bne_eq_false_iff_eq]; omega
    obtain ⟨O, hO⟩ : ∃ O, O = hexP U.data.toList := ⟨_, rfl⟩
    rw [← hO]
    have HO := Lib.hid hO
    have hu2 : U.size ≤ s.size := by omega
    have hu3 : s.size ≤ U.size := by omega
    have hpar : s.size % 2 = 0 := by omega
    have HPAR := Lib.hid hpar
    clear hgr hll hU hUd hUs hodd hO hpar
    go_enter Tryz.func33, Tryz.ntmps33
    go_wp2_with (go_at_call 63; (with_reducible refine (HGR.out _).mono ?_); rintro e w1 ⟨rfl, hb1⟩; (have HB1 := Lib.hid hb1); clear hb1)
    go_loopw [6, 7, 8, 9] (fun v i _ _ wr => ∃ (j : Nat) (acc : List UInt8), j ≤ s.size ∧ j = 2 * acc.length ∧ i = .int .i64 (j : Nat) ∧ Ow .u8 5 w.heap.size wr v (nums acc) ∧ Below w.heap.size w wr ∧ O = (hexP (U.data.toList.drop j)).map (acc ++ ·)) (fun _ i _ _ _ => s.size - (intOf i).toNat)
    case atStart => exact ⟨0, [], Nat.zero_le _, rfl, rfl, Ow.nil _ _ _ _, HB1.out, by rw [HO.out]; simp⟩
    case round =>
      obtain ⟨j, acc, hj, hal, rfl, how, hbw, hoe⟩ := hrel
      have HAL := Lib.hid hal
      have HOW := Lib.hid how
      have HBW := Lib.hid hbw
      by_cases hlt : j < s.size
      · have hlt2 : j + 1 < s.size := by have := HPAR.out; omega
        clear hal how hbw
        have hk1 : j + 1 < U.size := by omega
        have hk0 : j < U.size := by omega
        have hz0 : j < U.data.toList.length := by rw [← Lib.size_eq]; exact hk0
        have hz1 : j + 1 < U.data.toList.length := by rw [← Lib.size_eq]; exact hk1
        have hd1 : U.data.toList.drop j = U[j] :: U[j + 1] :: U.data.toList.drop (j + 2) := by
          rw [show j + 2 = j + 1 + 1 by omega, List.drop_eq_getElem_cons hz0, List.drop_eq_getElem_cons hz1, ba_get U _ hk0, ba_get U _ hk1]
        rw [hd1] at hoe
        obtain ⟨a, ha⟩ : ∃ a, U[j] = a := ⟨_, rfl⟩
        obtain ⟨b, hb⟩ : ∃ b, U[j + 1] = b := ⟨_, rfl⟩
        rw [ha, hb] at hoe
        have hia := fun w => idx_calls ⟨hxT.toArray⟩ a w
        have hib := fun w => idx_calls ⟨hxT.toArray⟩ b w
        have bda := hxV_bd a
        have bdb := hxV_bd b
        obtain ⟨x, hx⟩ : ∃ x, x = hxV a := ⟨_, rfl⟩
        obtain ⟨y, hy⟩ : ∃ y, y = hxV b := ⟨_, rfl⟩
        have hia : ∀ w, Calls Tryz.prog 81 #[.string ⟨#[48, 49, 50, 51, 52, 53, 54, 55, 56, 57, 65, 66, 67, 68, 69, 70]⟩, .int .u8 (a.toNat : Int)] w fun e w' => e = .returned (.int .i64 x) ∧ w = w' := fun w => by rw [hx]; exact hia w
        have hib : ∀ w, Calls Tryz.prog 81 #[.string ⟨#[48, 49, 50, 51, 52, 53, 54, 55, 56, 57, 65, 66, 67, 68, 69, 70]⟩, .int .u8 (b.toNat : Int)] w fun e w' => e = .returned (.int .i64 y) ∧ w = w' := fun w => by rw [hy]; exact hib w
        rw [← hx] at bda
        rw [← hy] at bdb
        have hbad := fun h => hexP_bad (a := a) (b := b) (t := U.data.toList.drop (j + 2)) h
        have hok := fun h1 h2 => hexP_ok (a := a) (b := b) (t := U.data.toList.drop (j + 2)) h1 h2
        rw [← hx, ← hy] at hbad hok
        obtain ⟨bda1, bda2⟩ := bda
        obtain ⟨bdb1, bdb2⟩ := bdb
        have HIA := Lib.hid hia
        have HIB := Lib.hid hib
        have HBAD := Lib.hid hbad
        have HOK := Lib.hid hok
        have HOE := Lib.hid hoe
        have hA : (((U[j]'hk0).toNat : Nat) : Int) = (a.toNat : Int) := by rw [ha]
        have hB : (((U[j + 1]'hk1).toNat : Nat) : Int) = (b.toNat : Int) := by rw [hb]
        have hw1 : IntKind.i64.wrap ((j : Int) + 1) = (j : Int) + 1 := by rw [IntKind.wrap_i64]; omega
        have hn1 : ((j : Int) + 1).toNat = j + 1 := by omega
        have hn2 : 0 ≤ (j : Int) + 1 := by omega
        clear hz0 hz1 hd1 hia hib hx hy hoe ha hb hbad hok
        go_upto_region 8 with fail
        refine wp_region_lw (by kernel_rfl) (by kernel_rfl) ?_
        repeat (go_big_quiet_step (first | exact rfl | (go_at_call 81; with_reducible exact lw_same (HIA.out _)) | (go_at_call 81; with_reducible exact lw_same (HIB.out _))))
        refine wpQuiet_nil ?_
        rintro ⟨w3, hb3⟩
        dsimp only
        clear hw1 hn1 hn2 hA hB HIA HIB
        have hbw3 := HBW.out.trans (hb3.mono HBW.out.size)
        by_cases hx0 : x < 0
        · have hfin : O = none := by rw [HOE.out, HBAD.out (.inl hx0)]; rfl
          subst hfin
          clear HOE HBAD HOK
          go_wp2_with fail
          go_ret2
          exact ⟨rfl, hbw3⟩
        by_cases hy0 : y < 0
        · have hfin : O = none := by rw [HOE.out, HBAD.out (.inr hy0)]; rfl
          subst hfin
          clear HOE HBAD HOK
          go_wp2_with fail
          go_ret2
          exact ⟨rfl, hbw3⟩
        have hx1 : 0 ≤ x := by omega
        have hy1 : 0 ≤ y := by omega
        have hnew : O = (hexP (U.data.toList.drop (j + 2))).map ((acc ++ [UInt8.ofNat (x * 16 + y).toNat]) ++ ·) := by
          rw [HOE.out, HOK.out hx1 hy1]
          cases hexP (U.data.toList.drop (j + 2)) <;> simp
        have HNEW := Lib.hid hnew
        clear hnew HOE HBAD HOK hx0 hy0
        have hor := or_i64_add x y 4 hx1 (by omega) hy1 (by omega) (by omega)
        obtain ⟨z, hz⟩ : ∃ z, z = x * 2 ^ 4 + y := ⟨_, rfl⟩
        rw [← hz] at hor
        have hz0 : 0 ≤ z := by omega
        have hz1 : z < 256 := by omega
        have hor : bits .or .i64 (x * 16) y = z := hor
        have hnn := nums_one acc z hz0 hz1
        have hnz : UInt8.ofNat (x * 16 + y).toNat = UInt8.ofNat z.toNat := by rw [hz]; rfl
        have how3 : Ow .u8 5 w.heap.size w3 u6 (nums acc) := HOW.out.below hb3 (fun g hg => (HOW.out.lt g hg).2)
        have hal3 : (nums acc).length ≤ 1000000000 := by rw [nums_len]; have := HAL.out; omega
        have HOW3 := Lib.hid how3
        have HNN := Lib.hid hnn
        have HNZ := Lib.hid hnz
        have hsz3 : w.heap.size ≤ w3.heap.size := hbw3.size
        have HBW3 := Lib.hid hbw3
        clear hnn hnz how3 hz hb3 hbw3
        go_wp2_with (at_builtin; refine wpList_appJ rfl (.tmp 40) (.tmp 46) _ rfl .u8 w.heap.size 5 _ 1 Tryz.underlying65 Tryz.infoU8 rfl _ (nums acc) rfl (HOW3.out.alloc _) _ 1 1 [z] rfl (SlI.one _ _ _ _) (by simp) (by omega) (by omega) (by simp; omega) ?_; intro v4 w4 ow4 hg4 st4; (have OW4 := Lib.hid ow4); (have HG4 := Lib.hid hg4); clear ow4 hg4 st4)
        go_roundw
        case rel =>
          refine ⟨j + 2, acc ++ [UInt8.ofNat z.toNat], by omega, by rw [List.length_append]; have := HAL.out; simp; omega, by go_num, by rw [HNN.out]; exact OW4.out, (HBW3.out.alloc (by simpa using hsz3) _).grown HG4.out (by simp; omega) (fun k e => ?_), by rw [← HNZ.out]; exact HNEW.out⟩
          exact (HOW3.out.lt k e).1
        case measure => simp [intOf]; omega
      · have hje : j = s.size := by omega
        have hfin : O = some acc := by
          rw [hoe, List.drop_of_length_le (by rw [← Lib.size_eq]; omega)]; simp [hexP]
        subst hfin
        obtain ⟨va, vc, rfl, hsl, _⟩ := how.sl
        have hcv := how.str Tryz.underlying65 Tryz.underlying5 Tryz.underlying9
        have HCV := Lib.hid hcv
        clear hal how hoe hsl hcv hje
        have hcv := HCV.out
        go_wp2_with fail
        go_ret2
        exact ⟨rfl, HBW.out⟩
end Go.Proofs.YtlhcejbimlilaaaGreatDoor
/- The program's readDate. -/
namespace Go.Tk
open Go Go.RowKit
def rdY3 (y m : Int) (o : Option (Int × List UInt8)) : Option (Int × Int × Int × List UInt8) := match o with
  | none => none
  | some (d, e) => if d < 1 ∨ mdP y m < d then none else some (y, m, d, e)
def rdY2 (y : Int) (o : Option (Int × List UInt8)) : Option (Int × Int × Int × List UInt8) := match o with
  | none => none
  | some (m, r) => if m < 1 ∨ 12 < m then none else rdY3 y m (twoP r [])
theorem rdY_eq (s : List UInt8) : rdY s = if okY (ngR s) = true then rdY2 (yrZ s) (twoP ((ngR s).drop ((yrI (ngR s)).toNat + 1)) [45]) else none := rfl
def dtO (o : Option (Int × Int × Int × List UInt8)) : Option (Int × List UInt8) := o.map fun x => (dyP x.1 x.2.1 x.2.2.1, x.2.2.2)
theorem rdD_eq (s : List UInt8) : rdD s = dtO (rdY s) := rfl
def rdV (o : Option (Int × List UInt8)) : Value := match o with
  | none => .tuple #[.int .i64 0, .string ⟨#[]⟩, .bool false]
  | some x => .tuple #[.int .i64 x.1, .string ⟨x.2.toArray⟩, .bool true]
theorem ngR_le (s : List UInt8) : (ngR s).length ≤ s.length := by
  unfold ngR Lib.trimPrefix
  split
  · rw [List.length_drop]; omega
  · exact Nat.le_refl _
end Go.Tk
namespace Go.Proofs.YtlhcejbimlilaaaGreatDoor
open Go.RowKit Go.Tk
theorem cutPre_calls (s p : ByteArray) (w : World) : Calls Tryz.prog 85 #[.string s, .string p] w fun e w' => e = .returned (.tuple #[.string ⟨(Lib.trimPrefix s.data.toList p.data.toList).toArray⟩, .bool (Lib.hasPrefix s.data.toList p.data.toList)]) ∧ w = w' :=
  (Tryz.strings_CutPrefix s p w).mono fun _ _ ⟨h, h2⟩ => ⟨h, h2.symm⟩
set_option maxHeartbeats 4000000 in
set_option maxRecDepth 100000 in
theorem readDate_calls (s : ByteArray) (w : World) (hs : s.size ≤ 4000000000) :
    Calls Tryz.prog 84 #[.string s] w fun e w' => e = .returned (rdV (rdD s.data.toList)) ∧ Below w.heap.size w w' := by
  have hcp := fun w => cutPre_calls s ⟨#[45]⟩ w
  obtain ⟨L, hL⟩ : ∃ L : ByteArray, L = ⟨(ngR s.data.toList).toArray⟩ := ⟨_, rfl⟩
  have hLd : L.data.toList = ngR s.data.toList := by rw [hL]
  have hLs : L.size ≤ 4000000000 := by rw [Lib.size_eq, hLd]; have := ngR_le s.data.toList; rw [← Lib.size_eq] at this; omega
  obtain ⟨ng, hng⟩ : ∃ b, b = ngB s.data.toList := ⟨_, rfl⟩
  have hcp : ∀ w, Calls Tryz.prog 85 #[.string s, .string ⟨#[45]⟩] w fun e w' => e = .returned (.tuple #[.string L, .bool ng]) ∧ w = w' := fun w => by rw [hL, hng]; exact hcp w
  have hix := fun w => idx_calls L 45 w
  have hkg := Lib.indexByte_ge L.data.toList 45
  have hkl := indexByte_lt L.data.toList 45
  obtain ⟨at', hat⟩ : ∃ k, k = yrI L.data.toList := ⟨_, rfl⟩
  have hat2 : Lib.indexByte L.data.toList 45 = at' := hat.symm
  rw [hat2] at hix hkg hkl
  have hix : ∀ w, Calls Tryz.prog 81 #[.string L, .int .u8 45] w fun e w' => e = .returned (.int .i64 at') ∧ w = w' := hix
  rw [← Lib.size_eq] at hkl
  rw [rdD_eq, rdY_eq]
  have hyz : yrZ s.data.toList = if ng = true then -(numN (L.data.toList.take at'.toNat) : Int) else numN (L.data.toList.take at'.toNat) := by unfold yrZ; rw [← hng, ← hLd, hat]
  rw [hyz, ← hLd, ← hat]
  have hok : okY L.data.toList = (decide (4 ≤ at') && decide (at' ≤ 9) && dgB (L.data.toList.take at'.toNat) && !(decide (4 < at') && decide (L.data.toList.head? = some 48))) := by unfold okY; rw [← hat]
  rw [hok]
  have HCP := Lib.hid hcp
  have HIX := Lib.hid hix
  clear hcp hix hL hng hat hat2 hyz hok hLd
  by_cases a4 : ¬ 4 ≤ at'
  · rw [decide_eq_false a4]
    have a4' : at' < 4 := by omega
    clear a4
    show Calls _ _ _ _ fun e w' => e = .returned (.tuple #[.int .i64 0, .string ⟨#[]⟩, .bool false]) ∧ _
    go_enter Tryz.func84, Tryz.ntmps84
    go_wp2_with (first | (go_at_call 85; (with_reducible refine (HCP.out _).mono ?_); rintro e w' ⟨rfl, rfl⟩) | (go_at_call 81; (with_reducible refine (HIX.out _).mono ?_); rintro e w' ⟨rfl, rfl⟩))
    refine bodyPost_ret (v := .tuple #[.int .i64 0, .string ⟨#[]⟩, .bool false]) (by simp [results, Tryz.results84, go_sem]) rfl ⟨rfl, Below.refl _ _⟩
  have a4 := Decidable.not_not.1 a4
  by_cases a9 : ¬ at' ≤ 9
  · rw [decide_eq_true a4, decide_eq_false a9]
    have a9' : 9 < at' := by omega
    clear a9
    show Calls _ _ _ _ fun e w' => e = .returned (.tuple #[.int .i64 0, .string ⟨#[]⟩, .bool false]) ∧ _
    go_enter Tryz.func84, Tryz.ntmps84
    go_wp2_with (first | (go_at_call 85; (with_reducible refine (HCP.out _).mono ?_); rintro e w' ⟨rfl, rfl⟩) | (go_at_call 81; (with_reducible refine (HIX.out _).mono ?_); rintro e w' ⟨rfl, rfl⟩))
    refine bodyPost_ret (v := .tuple #[.int .i64 0, .string ⟨#[]⟩, .bool false]) (by simp [results, Tryz.results84, go_sem]) rfl ⟨rfl, Below.refl _ _⟩
  have a9 := Decidable.not_not.1 a9
  rw [decide_eq_true a4, decide_eq_true a9]
  obtain ⟨k, rfl⟩ : ∃ k : Nat, at' = k := ⟨at'.toNat, by omega⟩
  rw [Int.toNat_natCast]
  have hk4 : 4 ≤ k := by omega
  have hk9 : k ≤ 9 := by omega
  have hkL : k < L.size := by omega
  have x1 := ex_take L k
  have x2 := ex_drop L (k + 1)
  obtain ⟨P, hP⟩ : ∃ P, L.extract 0 k = P := ⟨_, rfl⟩
  obtain ⟨R, hR⟩ : ∃ R, L.extract (k + 1) L.size = R := ⟨_, rfl⟩
  rw [hP] at x1
  rw [hR] at x2
  have hPd : P.data.toList = L.data.toList.take k := by rw [x1]
  have hRd : R.data.toList = L.data.toList.drop (k + 1) := by rw [x2]
  have hPl : P.data.toList.length = k := by rw [hPd, List.length_take, ← Lib.size_eq]; omega
  have hRs : R.size ≤ 4000000000 := by rw [Lib.size_eq, hRd, List.length_drop, ← Lib.size_eq]; omega
  rw [← hPd, ← hRd]
  have hda := fun w => allDigits_calls P w (by rw [Lib.size_eq, hPl]; omega)
  have h0L : 0 < L.size := by omega
  have hcs := ba_cons L h0L
  obtain ⟨c, hc⟩ : ∃ c, L[0] = c := ⟨_, rfl⟩
  rw [hc] at hcs
  have hhd : decide (L.data.toList.head? = some 48) = decide (c = 48) := by rw [hcs]; simp
  rw [hhd]
  have gc : (((L[0]'h0L).toNat : Nat) : Int) = (c.toNat : Int) := by rw [hc]
  obtain ⟨x, hx⟩ : ∃ x : Int, x = (c.toNat : Int) := ⟨_, rfl⟩
  rw [← hx] at gc
  have b48 : (x == 48) = decide (c = 48) := by
    by_cases h : c = 48
    · rw [decide_eq_true h, beq_iff_eq, hx, h]; rfl
    · rw [decide_eq_false h, beq_eq_false_iff_ne]; intro e; exact h (u8_eq (n := 48) (by omega) (by omega))
  obtain ⟨z48, hz48⟩ : ∃ d, d = decide (c = 48) := ⟨_, rfl⟩
  rw [← hz48] at b48 ⊢
  obtain ⟨dg, hdg⟩ : ∃ d, d = dgB P.data.toList := ⟨_, rfl⟩
  rw [← hdg] at hda ⊢
  have HDA := Lib.hid hda
  have HDG := Lib.hid hdg
  have HPL := Lib.hid hPl
  have hw1 : IntKind.i64.wrap ((k : Int) + 1) = (k : Int) + 1 := by rw [IntKind.wrap_i64]; omega
  have hn1 : ((k : Int) + 1).toNat = k + 1 := by omega
  have b9 : ((k : Int) < 4) = False := by simp; omega
  clear hkg hkl a4 a9 x1 x2 hPd hRd hPl hda hcs hc hhd hx hz48 hdg b9
  have A4 : decide (4 < (k : Int)) = decide (4 < k) := by by_cases h : 4 < k <;> simp [h] <;> omega
  rw [A4]
  clear A4
  cases dg with
  | false =>
    show Calls _ _ _ _ fun e w' => e = .returned (.tuple #[.int .i64 0, .string ⟨#[]⟩, .bool false]) ∧ _
    go_enter Tryz.func84, Tryz.ntmps84
    go_wp2_with (first | (go_at_call 85; (with_reducible refine (HCP.out _).mono ?_); rintro e w' ⟨rfl, rfl⟩) | (go_at_call 81; (with_reducible refine (HIX.out _).mono ?_); rintro e w' ⟨rfl, rfl⟩) | (go_at_call 96; (with_reducible refine (HDA.out _).mono ?_); rintro e w' ⟨rfl, rfl⟩))
    refine bodyPost_ret (v := .tuple #[.int .i64 0, .string ⟨#[]⟩, .bool false]) (by simp [results, Tryz.results84, go_sem]) rfl ⟨rfl, Below.refl _ _⟩
  | true =>
  have hbad : (4 < k ∧ z48 = true) ∨ (k = 4 ∨ 4 < k ∧ z48 = false) := by
    by_cases h : 4 < k
    · cases z48
      · exact .inr (.inr ⟨h, rfl⟩)
      · exact .inl ⟨h, rfl⟩
    · exact .inr (.inl (by omega))
  rcases hbad with ⟨h4, rfl⟩ | hgood
  · rw [decide_eq_true h4]
    show Calls _ _ _ _ fun e w' => e = .returned (.tuple #[.int .i64 0, .string ⟨#[]⟩, .bool false]) ∧ _
    go_enter Tryz.func84, Tryz.ntmps84
    go_wp2_with (first | (go_at_call 85; (with_reducible refine (HCP.out _).mono ?_); rintro e w' ⟨rfl, rfl⟩) | (go_at_call 81; (with_reducible refine (HIX.out _).mono ?_); rintro e w' ⟨rfl, rfl⟩) | (go_at_call 96; (with_reducible refine (HDA.out _).mono ?_); rintro e w' ⟨rfl, rfl⟩))
    refine bodyPost_ret (v := .tuple #[.int .i64 0, .string ⟨#[]⟩, .bool false]) (by simp [results, Tryz.results84, go_sem]) rfl ⟨rfl, Below.refl _ _⟩
  have hok : (true && true && true && !(decide (4 < k) && z48)) = true := by
    rcases hgood with rfl | ⟨h, rfl⟩ <;> simp
  rw [hok, if_pos rfl]
  clear hok
  have hpi := fun w => parse_calls P w HDG.out.symm (by intro e; have := HPL.out; rw [e] at this; simp at this; omega) (by rw [HPL.out]; exact hk9)
  have hnl := numN_lt _ HDG.out.symm (by rw [HPL.out]; exact hk9)
  obtain ⟨Nn, hNn⟩ : ∃ n, n = numN P.data.toList := ⟨_, rfl⟩
  rw [← hNn] at hpi hnl ⊢
  obtain ⟨y, hy⟩ : ∃ y : Int, y = if ng = true then -(Nn : Int) else Nn := ⟨_, rfl⟩
  rw [← hy]
  have hyb : -1000000000 < y ∧ y < 1000000000 := by rw [hy]; split <;> omega
  obtain ⟨hyb1, hyb2⟩ := hyb
  have ht1 := fun w => two_calls R ⟨#[45]⟩ w (by omega) (by decide)
  obtain ⟨o1, ho1⟩ : ∃ o, o = twoP R.data.toList [45] := ⟨_, rfl⟩
  have ht1 : ∀ w, Calls Tryz.prog 125 #[.string R, .string ⟨#[45]⟩] w fun e w' => e = .returned (twV o1) ∧ ∃ n, w' = w.drewN n := fun w => by rw [ho1]; exact ht1 w
  rw [← ho1]
  have HPI := Lib.hid hpi
  have HO1 := Lib.hid ho1
  clear hpi hNn ho1
  cases o1 with
  | none =>
    have ht1 : ∀ w, Calls Tryz.prog 125 #[.string R, .string ⟨#[45]⟩] w fun e w' => e = .returned (.tuple #[.int .i64 0, .string ⟨#[]⟩, .bool false]) ∧ ∃ n, w' = w.drewN n := ht1
    have HT1 := Lib.hid ht1
    clear ht1 hy
    show Calls _ _ _ _ fun e w' => e = .returned (.tuple #[.int .i64 0, .string ⟨#[]⟩, .bool false]) ∧ _
    rcases hgood with rfl | ⟨h, rfl⟩
    all_goals
      cases ng
      all_goals
        go_enter Tryz.func84, Tryz.ntmps84
        go_wp2_with (first | (go_at_call 85; (with_reducible refine (HCP.out _).mono ?_); rintro e w' ⟨rfl, rfl⟩) | (go_at_call 81; (with_reducible refine (HIX.out _).mono ?_); rintro e w' ⟨rfl, rfl⟩) | (go_at_call 96; (with_reducible refine (HDA.out _).mono ?_); rintro e w' ⟨rfl, rfl⟩) | (go_at_call 124; (with_reducible refine (HPI.out _).mono ?_); rintro e w5 ⟨rfl, hb5⟩) | (go_at_call 125; (with_reducible refine (HT1.out _).mono ?_); rintro e w' ⟨rfl, n1, rfl⟩))
        refine bodyPost_ret (v := .tuple #[.int .i64 0, .string ⟨#[]⟩, .bool false]) (by simp [results, Tryz.results84, go_sem]) rfl ⟨rfl, below_drewN hb5 _⟩
  | some q =>
  obtain ⟨m, r⟩ := q
  have bm := twoP_bd HO1.out.symm
  obtain ⟨Q, hQ⟩ : ∃ Q : ByteArray, Q = ⟨r.toArray⟩ := ⟨_, rfl⟩
  have hQd : Q.data.toList = r := by rw [hQ]
  have hQs : Q.size ≤ 4000000000 := by rw [Lib.size_eq, hQd]; have := bm.2.2; rw [← Lib.size_eq] at this; omega
  have ht1 : ∀ w, Calls Tryz.prog 125 #[.string R, .string ⟨#[45]⟩] w fun e w' => e = .returned (.tuple #[.int .i64 m, .string Q, .bool true]) ∧ ∃ n, w' = w.drewN n := fun w => by rw [hQ]; exact ht1 w
  have ht2 := fun w => two_calls Q ⟨#[]⟩ w (by omega) (by decide)
  obtain ⟨o2, ho2⟩ : ∃ o, o = twoP r [] := ⟨_, rfl⟩
  have ht2 : ∀ w, Calls Tryz.prog 125 #[.string Q, .string ⟨#[]⟩] w fun e w' => e = .returned (twV o2) ∧ ∃ n, w' = w.drewN n := fun w => by rw [ho2, ← hQd]; exact ht2 w
  show Calls _ _ _ _ fun e w' => e = .returned (rdV (dtO (if m < 1 ∨ 12 < m then none else rdY3 y m (twoP r [])))) ∧ _
  rw [← ho2]
  have HT1 := Lib.hid ht1
  have HO2 := Lib.hid ho2
  obtain ⟨bm1, bm2, _⟩ := bm
  clear ht1 hQ hQd HO1 ho2
  by_cases hm : m < 1 ∨ 12 < m
  · rw [if_pos hm]
    clear ht2 hy
    show Calls _ _ _ _ fun e w' => e = .returned (.tuple #[.int .i64 0, .string ⟨#[]⟩, .bool false]) ∧ _
    have hm2 : m < 1 ∨ 1 ≤ m ∧ 12 < m := by omega
    clear hm
    rcases hm2 with q1 | ⟨q1, q2⟩
    all_goals
      rcases hgood with rfl | ⟨h, rfl⟩
      all_goals
        cases ng
        all_goals
          go_enter Tryz.func84, Tryz.ntmps84
          go_wp2_with (first | (go_at_call 85; (with_reducible refine (HCP.out _).mono ?_); rintro e w' ⟨rfl, rfl⟩) | (go_at_call 81; (with_reducible refine (HIX.out _).mono ?_); rintro e w' ⟨rfl, rfl⟩) | (go_at_call 96; (with_reducible refine (HDA.out _).mono ?_); rintro e w' ⟨rfl, rfl⟩) | (go_at_call 124; (with_reducible refine (HPI.out _).mono ?_); rintro e w5 ⟨rfl, hb5⟩) | (go_at_call 125; (with_reducible refine (HT1.out _).mono ?_); rintro e w' ⟨rfl, n1, rfl⟩))
          refine bodyPost_ret (v := .tuple #[.int .i64 0, .string ⟨#[]⟩, .bool false]) (by simp [results, Tryz.results84, go_sem]) rfl ⟨rfl, below_drewN hb5 _⟩
  rw [if_neg hm]
  have hm1 : 1 ≤ m := by omega
  have hm2 : m ≤ 12 := by omega
  clear hm
  cases o2 with
  | none =>
    have ht2 : ∀ w, Calls Tryz.prog 125 #[.string Q, .string ⟨#[]⟩] w fun e w' => e = .returned (.tuple #[.int .i64 0, .string ⟨#[]⟩, .bool false]) ∧ ∃ n, w' = w.drewN n := ht2
    have HT2 := Lib.hid ht2
    clear ht2 hy
    show Calls _ _ _ _ fun e w' => e = .returned (.tuple #[.int .i64 0, .string ⟨#[]⟩, .bool false]) ∧ _
    rcases hgood with rfl | ⟨h, rfl⟩
    all_goals
      cases ng
      all_goals
        go_enter Tryz.func84, Tryz.ntmps84
        go_wp2_with (first | (go_at_call 85; (with_reducible refine (HCP.out _).mono ?_); rintro e w' ⟨rfl, rfl⟩) | (go_at_call 81; (with_reducible refine (HIX.out _).mono ?_); rintro e w' ⟨rfl, rfl⟩) | (go_at_call 96; (with_reducible refine (HDA.out _).mono ?_); rintro e w' ⟨rfl, rfl⟩) | (go_at_call 124; (with_reducible refine (HPI.out _).mono ?_); rintro e w5 ⟨rfl, hb5⟩) | (go_at_call 125; (with_reducible refine (HT1.out _).mono ?_); rintro e w' ⟨rfl, n1, rfl⟩) | (go_at_call 125; (with_reducible refine (HT2.out _).mono ?_); rintro e w' ⟨rfl, n2, rfl⟩))
        refine bodyPost_ret (v := .tuple #[.int .i64 0, .string ⟨#[]⟩, .bool false]) (by simp [results, Tryz.results84, go_sem]) rfl ⟨rfl, below_drewN hb5 _⟩
  | some q =>
  obtain ⟨d, e⟩ := q
  have bd := twoP_bd HO2.out.symm
  obtain ⟨bd1, bd2, _⟩ := bd
  obtain ⟨E, hE⟩ : ∃ E : ByteArray, E = ⟨e.toArray⟩ := ⟨_, rfl⟩
  have ht2 : ∀ w, Calls Tryz.prog 125 #[.string Q, .string ⟨#[]⟩] w fun e' w' => e' = .returned (.tuple #[.int .i64 d, .string E, .bool true]) ∧ ∃ n, w' = w.drewN n := fun w => by rw [hE]; exact ht2 w
  have HT2 := Lib.hid ht2
  clear ht2 HO2
  have hmd := fun w => monthDays_calls y m w (by omega) (by omega)
  have hmb := mdP_bd y m
  have hdy := fun w => days_calls y m d w (by omega) (by omega) hm1 hm2 bd1 (by omega)
  show Calls _ _ _ _ fun e' w' => e' = .returned (rdV (dtO (if d < 1 ∨ mdP y m < d then none else some (y, m, d, e)))) ∧ _
  have hdc : dtO (if d < 1 ∨ mdP y m < d then none else some (y, m, d, e)) = if d < 1 ∨ mdP y m < d then none else some (dyP y m d, e) := by split <;> rfl
  rw [hdc]
  obtain ⟨M, hM⟩ : ∃ M, M = mdP y m := ⟨_, rfl⟩
  obtain ⟨D, hD⟩ : ∃ D, D = dyP y m d := ⟨_, rfl⟩
  rw [← hM] at hmd hmb ⊢
  rw [← hD] at hdy ⊢
  obtain ⟨hmb1, hmb2⟩ := hmb
  clear hdc hM hD hyb1 hyb2
  by_cases hd : d < 1 ∨ M < d
  · rw [if_pos hd]
    show Calls _ _ _ _ fun e' w' => e' = .returned (.tuple #[.int .i64 0, .string ⟨#[]⟩, .bool false]) ∧ _
    have hd2 : d < 1 ∨ 1 ≤ d ∧ M < d := by omega
    clear hd hE hdy
    rcases hd2 with q1 | ⟨q1, q2⟩
    all_goals
      rcases hgood with rfl | ⟨h, rfl⟩
      all_goals
        cases ng
        all_goals
          first | (rw [if_pos rfl] at hy) | (rw [if_neg (by simp)] at hy)
          subst hy
          have HMD := Lib.hid hmd
          clear hmd
          go_enter Tryz.func84, Tryz.ntmps84
          go_wp2_with (first | (go_at_call 85; (with_reducible refine (HCP.out _).mono ?_); rintro e w' ⟨rfl, rfl⟩) | (go_at_call 81; (with_reducible refine (HIX.out _).mono ?_); rintro e w' ⟨rfl, rfl⟩) | (go_at_call 96; (with_reducible refine (HDA.out _).mono ?_); rintro e w' ⟨rfl, rfl⟩) | (go_at_call 124; (with_reducible refine (HPI.out _).mono ?_); rintro e w5 ⟨rfl, hb5⟩) | (go_at_call 125; (with_reducible refine (HT1.out _).mono ?_); rintro e w' ⟨rfl, n1, rfl⟩) | (go_at_call 125; (with_reducible refine (HT2.out _).mono ?_); rintro e w' ⟨rfl, n2, rfl⟩) | (go_at_call 126; (with_reducible refine (HMD.out _).mono ?_); rintro e w' ⟨rfl, rfl⟩))
          refine bodyPost_ret (v := .tuple #[.int .i64 0, .string ⟨#[]⟩, .bool false]) (by simp [results, Tryz.results84, go_sem]) rfl ⟨rfl, below_drewN hb5 _⟩
  · rw [if_neg hd]
    show Calls _ _ _ _ fun e' w' => e' = .returned (.tuple #[.int .i64 D, .string ⟨e.toArray⟩, .bool true]) ∧ _
    rw [← hE]
    have q1 : 1 ≤ d := by omega
    have q2 : d ≤ M := by omega
    clear hd hE
    rcases hgood with rfl | ⟨h, rfl⟩
    all_goals
      cases ng
      all_goals
        first | (rw [if_pos rfl] at hy) | (rw [if_neg (by simp)] at hy)
        subst hy
        have HMD := Lib.hid hmd
        have HDY := Lib.hid hdy
        clear hmd hdy
        go_enter Tryz.func84, Tryz.ntmps84
        go_wp2_with (first | (go_at_call 85; (with_reducible refine (HCP.out _).mono ?_); rintro e w' ⟨rfl, rfl⟩) | (go_at_call 81; (with_reducible refine (HIX.out _).mono ?_); rintro e w' ⟨rfl, rfl⟩) | (go_at_call 96; (with_reducible refine (HDA.out _).mono ?_); rintro e w' ⟨rfl, rfl⟩) | (go_at_call 124; (with_reducible refine (HPI.out _).mono ?_); rintro e w5 ⟨rfl, hb5⟩) | (go_at_call 125; (with_reducible refine (HT1.out _).mono ?_); rintro e w' ⟨rfl, n1, rfl⟩) | (go_at_call 125; (with_reducible refine (HT2.out _).mono ?_); rintro e w' ⟨rfl, n2, rfl⟩) | (go_at_call 126; (with_reducible refine (HMD.out _).mono ?_); rintro e w' ⟨rfl, rfl⟩) | (go_at_call 127; (with_reducible refine (HDY.out _).mono ?_); rintro e w' ⟨rfl, rfl⟩))
        refine bodyPost_ret (v := .tuple #[.int .i64 D, .string E, .bool true]) (by simp [results, Tryz.results84, go_sem]) rfl ⟨rfl, below_drewN hb5 _⟩
end Go.Proofs.YtlhcejbimlilaaaGreatDoor
