/- VaI VaJ, laid as one. -/
import Derived.Test.YtlhcejbimlilaaaGreatDoorVaH
set_option linter.unusedVariables false
set_option linter.unusedSimpArgs false
/- The program's hex, base64. -/
namespace Go.Tk
open Go Go.RowKit
def hxT : List UInt8 := [48, 49, 50, 51, 52, 53, 54, 55, 56, 57, 65, 66, 67, 68, 69, 70]
def hxV (c : UInt8) : Int := Lib.indexByte hxT c
/-- The bytes that signs tell, two a byte. -/
def hexP : List UInt8 → Option (List UInt8)
  | [] => some []
  | [_] => none
  | a :: b :: t => if hxV a < 0 ∨ hxV b < 0 then none else (hexP t).map (UInt8.ofNat (hxV a * 16 + hxV b).toNat :: ·)
theorem indexByte_lt (l : List UInt8) (c : UInt8) : Lib.indexByte l c < l.length := by
  induction l with
  | nil => simp [Lib.indexByte]
  | cons x l ih =>
    simp only [Lib.indexByte]
    split
    · simp only [List.length_cons]; omega
    · split
      · simp only [List.length_cons]; omega
      · simp only [List.length_cons]; omega
theorem hxV_bd (c : UInt8) : -1 ≤ hxV c ∧ hxV c ≤ 15 := by
  have h1 := Lib.indexByte_ge hxT c
  have h2 := indexByte_lt hxT c
  unfold hxV
  simp [hxT] at h2
  exact ⟨h1, by simp only [hxT]; omega⟩
theorem hexP_odd : ∀ (l : List UInt8), l.length % 2 = 1 → hexP l = none
  | [], h => by simp at h
  | [_], _ => rfl
  | a :: b :: t, h => by
    simp only [hexP]
    split
    · rfl
    · rw [hexP_odd t (by simp at h; omega)]; rfl
theorem hexP_bad {a b : UInt8} {t : List UInt8} (h : hxV a < 0 ∨ hxV b < 0) : hexP (a :: b :: t) = none := by simp only [hexP]; rw [if_pos h]
theorem hexP_ok {a b : UInt8} {t : List UInt8} (h1 : 0 ≤ hxV a) (h2 : 0 ≤ hxV b) : hexP (a :: b :: t) = (hexP t).map (UInt8.ofNat (hxV a * 16 + hxV b).toNat :: ·) := by simp only [hexP]; rw [if_neg (by omega)]
theorem or_i64 (x y : Nat) (hx : x < 4611686018427387904) (hy : y < 4611686018427387904) : bits .or .i64 (x : Int) (y : Int) = ((x ||| y : Nat) : Int) := by
  have key : (BitVec.ofInt 64 (x : Int) ||| BitVec.ofInt 64 (y : Int)).toNat = x ||| y := by
    rw [BitVec.toNat_or, BitVec.toNat_ofInt, BitVec.toNat_ofInt]
    have e1 : ((x : Int) % ((2 ^ 64 : Nat) : Int)).toNat = x := by omega
    have e2 : ((y : Int) % ((2 ^ 64 : Nat) : Int)).toNat = y := by omega
    rw [e1, e2]
  show IntKind.i64.wrap ((BitVec.ofInt 64 (x : Int) ||| BitVec.ofInt 64 (y : Int)).toNat : Nat) = _
  rw [key, IntKind.wrap_i64]
  have : x ||| y < 2 ^ 62 := Nat.or_lt_two_pow hx hy
  omega
theorem or_i64_add (x y : Int) (k : Nat) (hx0 : 0 ≤ x) (hx : x * 2 ^ k < 4611686018427387904) (hy0 : 0 ≤ y) (hy : y < 2 ^ k) (hk : 2 ^ k < 4611686018427387904) : bits .or .i64 (x * 2 ^ k) y = x * 2 ^ k + y := by
  obtain ⟨a, rfl⟩ : ∃ a : Nat, x = a := ⟨x.toNat, by omega⟩
  obtain ⟨b, rfl⟩ : ∃ b : Nat, y = b := ⟨y.toNat, by omega⟩
  have e : (a : Int) * 2 ^ k = ((a * 2 ^ k : Nat) : Int) := by rw [Int.natCast_mul, Int.natCast_pow]; rfl
  have hb : b < 2 ^ k := by exact_mod_cast hy
  have h1 : a * 2 ^ k < 4611686018427387904 := by
    rw [e] at hx
    obtain ⟨m, hm⟩ : ∃ m, m = a * 2 ^ k := ⟨_, rfl⟩
    rw [← hm] at hx ⊢
    omega
  rw [e, or_i64 _ _ h1 (by omega), Nat.mul_comm, ← Nat.two_pow_add_eq_or_of_lt hb, Int.natCast_add]
theorem nums_one (acc : List UInt8) (z : Int) (h0 : 0 ≤ z) (h1 : z < 256) : nums (acc ++ [UInt8.ofNat z.toNat]) = nums acc ++ [z] := by
  rw [nums_append]
  congr 1
  unfold nums
  simp
  omega
end Go.Tk
namespace Go.Proofs.YtlhcejbimlilaaaGreatDoor
open Go.RowKit Go.Tk
theorem idx_calls (t : ByteArray) (b : UInt8) (w : World) : Calls Tryz.prog 81 #[.string t, .int .u8 (b.toNat : Int)] w fun e w' => e = .returned (.int .i64 (Lib.indexByte t.data.toList b)) ∧ w = w' :=
  (Tryz.strings_IndexByte t (b.toNat : Int) w).mono fun _ _ ⟨h, h2⟩ => ⟨by rw [h]; simp, h2.symm⟩
set_option maxHeartbeats 1000000 in
theorem hex_calls (s : ByteArray) (w : World) (hs : s.size ≤ 1000000000) : Calls Tryz.prog 33 #[.string s] w fun e w' => e = .returned (.tuple #[.string ⟨((hexP (gtP s.data.toList)).getD []).toArray⟩, .bool (hexP (gtP s.data.toList)).isSome]) ∧ Below w.heap.size w w' := by
  have hgr := fun w => great_calls s w (by omega)
  have hll : (gtP s.data.toList).length = s.size := by unfold gtP; rw [List.length_map, Lib.size_eq]
  obtain ⟨U, hU⟩ : ∃ U : ByteArray, U = ⟨(gtP s.data.toList).toArray⟩ := ⟨_, rfl⟩
  have hUd : U.data.toList = gtP s.data.toList := by rw [hU]
  rw [← hU] at hgr
  rw [← hUd] at hll ⊢
  have hUs : U.size = s.size := by rw [Lib.size_eq, hll]
  have HGR := Lib.hid hgr
  by_cases hodd : s.size % 2 = 1
  · rw [hexP_odd U.data.toList (by rw [hll]; exact hodd)]
    have ho : (((s.size : Int) % 2) != 0) = true := by rw [bne_iff_ne]; omega
    clear hgr hll hU hUd hUs hodd
    go_enter Tryz.func33, Tryz.ntmps33
    go_wp2_with fail
    go_ret2
    exact ⟨rfl, Below.refl _ _⟩
  · have ho : (((s.size : Int) % 2) != 0) = false := by rw [bne_eq_false_iff_eq]; omega
    obtain ⟨O, hO⟩ : ∃ O, O = hexP U.data.toList := ⟨_, rfl⟩
    rw [← hO]
    have HO := Lib.hid hO
    have hu2 : U.size ≤ s.size := by omega
    have hu3 : s.size ≤ U.size := by omega
    have hpar : s.size % 2 = 0 := by omega
    have HPAR := Lib.hid hpar
    clear hgr hll hU hUd hUs hodd hO hpar
    go_enter Tryz.func33, Tryz.ntmps33
    go_wp2_with (go_at_call 63; (with_reducible refine (HGR.out _).mono ?_); rintro e w1 ⟨rfl, hb1⟩; (have HB1 := Lib.hid hb1); clear hb1)
    go_loopw [6, 7, 8, 9] (fun v i _ _ wr => ∃ (j : Nat) (acc : List UInt8), j ≤ s.size ∧ j = 2 * acc.length ∧ i = .int .i64 (j : Nat) ∧ Ow .u8 5 w.heap.size wr v (nums acc) ∧ Below w.heap.size w wr ∧ O = (hexP (U.data.toList.drop j)).map (acc ++ ·)) (fun _ i _ _ _ => s.size - (intOf i).toNat)
    case atStart => exact ⟨0, [], Nat.zero_le _, rfl, rfl, Ow.nil _ _ _ _, HB1.out, by rw [HO.out]; simp⟩
    case round =>
      obtain ⟨j, acc, hj, hal, rfl, how, hbw, hoe⟩ := hrel
      have HAL := Lib.hid hal
      have HOW := Lib.hid how
      have HBW := Lib.hid hbw
      by_cases hlt : j < s.size
      · have hlt2 : j + 1 < s.size := by have := HPAR.out; omega
        clear hal how hbw
        have hk1 : j + 1 < U.size := by omega
        have hk0 : j < U.size := by omega
        have hz0 : j < U.data.toList.length := by rw [← Lib.size_eq]; exact hk0
        have hz1 : j + 1 < U.data.toList.length := by rw [← Lib.size_eq]; exact hk1
        have hd1 : U.data.toList.drop j = U[j] :: U[j + 1] :: U.data.toList.drop (j + 2) := by
          rw [show j + 2 = j + 1 + 1 by omega, List.drop_eq_getElem_cons hz0, List.drop_eq_getElem_cons hz1, ba_get U _ hk0, ba_get U _ hk1]
        rw [hd1] at hoe
        obtain ⟨a, ha⟩ : ∃ a, U[j] = a := ⟨_, rfl⟩
        obtain ⟨b, hb⟩ : ∃ b, U[j + 1] = b := ⟨_, rfl⟩
        rw [ha, hb] at hoe
        have hia := fun w => idx_calls ⟨hxT.toArray⟩ a w
        have hib := fun w => idx_calls ⟨hxT.toArray⟩ b w
        have bda := hxV_bd a
        have bdb := hxV_bd b
        obtain ⟨x, hx⟩ : ∃ x, x = hxV a := ⟨_, rfl⟩
        obtain ⟨y, hy⟩ : ∃ y, y = hxV b := ⟨_, rfl⟩
        have hia : ∀ w, Calls Tryz.prog 81 #[.string ⟨#[48, 49, 50, 51, 52, 53, 54, 55, 56, 57, 65, 66, 67, 68, 69, 70]⟩, .int .u8 (a.toNat : Int)] w fun e w' => e = .returned (.int .i64 x) ∧ w = w' := fun w => by rw [hx]; exact hia w
        have hib : ∀ w, Calls Tryz.prog 81 #[.string ⟨#[48, 49, 50, 51, 52, 53, 54, 55, 56, 57, 65, 66, 67, 68, 69, 70]⟩, .int .u8 (b.toNat : Int)] w fun e w' => e = .returned (.int .i64 y) ∧ w = w' := fun w => by rw [hy]; exact hib w
        rw [← hx] at bda
        rw [← hy] at bdb
        have hbad := fun h => hexP_bad (a := a) (b := b) (t := U.data.toList.drop (j + 2)) h
        have hok := fun h1 h2 => hexP_ok (a := a) (b := b) (t := U.data.toList.drop (j + 2)) h1 h2
        rw [← hx, ← hy] at hbad hok
        obtain ⟨bda1, bda2⟩ := bda
        obtain ⟨bdb1, bdb2⟩ := bdb
        have HIA := Lib.hid hia
        have HIB := Lib.hid hib
        have HBAD := Lib.hid hbad
        have HOK := Lib.hid hok
        have HOE := Lib.hid hoe
        have hA : (((U[j]'hk0).toNat : Nat) : Int) = (a.toNat : Int) := by rw [ha]
        have hB : (((U[j + 1]'hk1).toNat : Nat) : Int) = (b.toNat : Int) := by rw [hb]
        have hw1 : IntKind.i64.wrap ((j : Int) + 1) = (j : Int) + 1 := by rw [IntKind.wrap_i64]; omega
        have hn1 : ((j : Int) + 1).toNat = j + 1 := by omega
        have hn2 : 0 ≤ (j : Int) + 1 := by omega
        clear hz0 hz1 hd1 hia hib hx hy hoe ha hb hbad hok
        go_upto_region 8 with fail
        refine wp_region_lw (by kernel_rfl) (by kernel_rfl) ?_
        repeat (go_big_quiet_step (first | exact rfl | (go_at_call 81; with_reducible exact lw_same (HIA.out _)) | (go_at_call 81; with_reducible exact lw_same (HIB.out _))))
        refine wpQuiet_nil ?_
        rintro ⟨w3, hb3⟩
        dsimp only
        clear hw1 hn1 hn2 hA hB HIA HIB
        have hbw3 := HBW.out.trans (hb3.mono HBW.out.size)
        by_cases hx0 : x < 0
        · have hfin : O = none := by rw [HOE.out, HBAD.out (.inl hx0)]; rfl
          subst hfin
          clear HOE HBAD HOK
          go_wp2_with fail
          go_ret2
          exact ⟨rfl, hbw3⟩
        by_cases hy0 : y < 0
        · have hfin : O = none := by rw [HOE.out, HBAD.out (.inr hy0)]; rfl
          subst hfin
          clear HOE HBAD HOK
          go_wp2_with fail
          go_ret2
          exact ⟨rfl, hbw3⟩
        have hx1 : 0 ≤ x := by omega
        have hy1 : 0 ≤ y := by omega
        have hnew : O = (hexP (U.data.toList.drop (j + 2))).map ((acc ++ [UInt8.ofNat (x * 16 + y).toNat]) ++ ·) := by
          rw [HOE.out, HOK.out hx1 hy1]
          cases hexP (U.data.toList.drop (j + 2)) <;> simp
        have HNEW := Lib.hid hnew
        clear hnew HOE HBAD HOK hx0 hy0
        have hor := or_i64_add x y 4 hx1 (by omega) hy1 (by omega) (by omega)
        obtain ⟨z, hz⟩ : ∃ z, z = x * 2 ^ 4 + y := ⟨_, rfl⟩
        rw [← hz] at hor
        have hz0 : 0 ≤ z := by omega
        have hz1 : z < 256 := by omega
        have hor : bits .or .i64 (x * 16) y = z := hor
        have hnn := nums_one acc z hz0 hz1
        have hnz : UInt8.ofNat (x * 16 + y).toNat = UInt8.ofNat z.toNat := by rw [hz]; rfl
        have how3 : Ow .u8 5 w.heap.size w3 u6 (nums acc) := HOW.out.below hb3 (fun g hg => (HOW.out.lt g hg).2)
        have hal3 : (nums acc).length ≤ 1000000000 := by rw [nums_len]; have := HAL.out; omega
        have HOW3 := Lib.hid how3
        have HNN := Lib.hid hnn
        have HNZ := Lib.hid hnz
        have hsz3 : w.heap.size ≤ w3.heap.size := hbw3.size
        have HBW3 := Lib.hid hbw3
        clear hnn hnz how3 hz hb3 hbw3
        go_wp2_with (at_builtin; refine wpList_appJ rfl (.tmp 40) (.tmp 46) _ rfl .u8 w.heap.size 5 _ 1 Tryz.underlying65 Tryz.infoU8 rfl _ (nums acc) rfl (HOW3.out.alloc _) _ 1 1 [z] rfl (SlI.one _ _ _ _) (by simp) (by omega) (by omega) (by simp; omega) ?_; intro v4 w4 ow4 hg4 st4; (have OW4 := Lib.hid ow4); (have HG4 := Lib.hid hg4); clear ow4 hg4 st4)
        go_roundw
        case rel =>
          refine ⟨j + 2, acc ++ [UInt8.ofNat z.toNat], by omega, by rw [List.length_append]; have := HAL.out; simp; omega, by go_num, by rw [HNN.out]; exact OW4.out, (HBW3.out.alloc (by simpa using hsz3) _).grown HG4.out (by simp; omega) (fun k e => ?_), by rw [← HNZ.out]; exact HNEW.out⟩
          exact (HOW3.out.lt k e).1
        case measure => simp [intOf]; omega
      · have hje : j = s.size := by omega
        have hfin : O = some acc := by
          rw [hoe, List.drop_of_length_le (by rw [← Lib.size_eq]; omega)]; simp [hexP]
        subst hfin
        obtain ⟨va, vc, rfl, hsl, _⟩ := how.sl
        have hcv := how.str Tryz.underlying65 Tryz.underlying5 Tryz.underlying9
        have HCV := Lib.hid hcv
        clear hal how hoe hsl hcv hje
        have hcv := HCV.out
        go_wp2_with fail
        go_ret2
        exact ⟨rfl, HBW.out⟩
end Go.Proofs.YtlhcejbimlilaaaGreatDoor
/- The program's base64 (written by gen_vaj.py). -/
namespace Go.Tk
open Go Go.RowKit
def b6T : List UInt8 := [65, 66, 67, 68, 69, 70, 71, 72, 73, 74, 75, 76, 77, 78, 79, 80, 81, 82, 83, 84, 85, 86, 87, 88, 89, 90, 97, 98, 99, 100, 101, 102, 103, 104, 105, 106, 107, 108, 109, 110, 111, 112, 113, 114, 115, 116, 117, 118, 119, 120, 121, 122, 48, 49, 50, 51, 52, 53, 54, 55, 56, 57, 43, 47]
def b6V (c : UInt8) : Int := Lib.indexByte b6T c
/-- Six bits a sign: B the bits that are held, H how many. What is left, and the bytes. -/
def b6F : Nat → Nat → List UInt8 → Option (Nat × List UInt8)
  | B, _, [] => some (B, [])
  | B, H, c :: t => if b6V c < 0 then none else
      if 2 ≤ H then (b6F ((B * 64 + (b6V c).toNat) % 2 ^ (H - 2)) (H - 2) t).map fun q => (q.1, UInt8.ofNat ((B * 64 + (b6V c).toNat) / 2 ^ (H - 2)) :: q.2)
      else b6F (B * 64 + (b6V c).toNat) (H + 6) t
def tre (l : List UInt8) : List UInt8 := Lib.trimRightB l 61
def b6E : Option (Nat × List UInt8) → List UInt8 × Bool
  | none => ([], false)
  | some (z, o) => (o, z == 0)
def b6R (l : List UInt8) : List UInt8 × Bool :=
  if l.length % 4 ≠ 0 then ([], false) else if 2 < l.length - (tre l).length then ([], false) else b6E (b6F 0 0 (tre l))
theorem b6V_bd (c : UInt8) : -1 ≤ b6V c ∧ b6V c ≤ 63 := by
  have h1 := Lib.indexByte_ge b6T c
  have h2 := indexByte_lt b6T c
  have h3 : b6T.length = 64 := rfl
  unfold b6V
  rw [h3] at h2
  exact ⟨h1, by omega⟩
theorem b6F_bad {B H : Nat} {c : UInt8} {t : List UInt8} (h : b6V c < 0) : b6F B H (c :: t) = none := by simp only [b6F]; rw [if_pos h]
theorem b6F_0 {B : Nat} {c : UInt8} {t : List UInt8} (h : 0 ≤ b6V c) : b6F B 0 (c :: t) = b6F (B * 64 + (b6V c).toNat) 6 t := by simp only [b6F]; rw [if_neg (by omega), if_neg (by omega)]
theorem b6F_s {B H : Nat} {c : UInt8} {t : List UInt8} (h : 0 ≤ b6V c) : b6F B (H + 2) (c :: t) = (b6F ((B * 64 + (b6V c).toNat) % 2 ^ H) H t).map fun q => (q.1, UInt8.ofNat ((B * 64 + (b6V c).toNat) / 2 ^ H) :: q.2) := by
  simp only [b6F]; rw [if_neg (by omega), if_pos (by omega)]; rfl
theorem tre_le (l : List UInt8) : (tre l).length ≤ l.length := by
  have h : ∀ l : List UInt8, (l.dropWhile (· == 61)).length ≤ l.length := fun l => by
    induction l with
    | nil => simp
    | cons c t ih => rw [List.dropWhile_cons]; split
                     · simp only [List.length_cons]; omega
                     · exact Nat.le_refl _
  have := h l.reverse
  unfold tre Lib.trimRightB
  rw [List.length_reverse] at this ⊢
  exact this
theorem and_i64 (x k : Nat) (hx : x < 4611686018427387904) (hk : 2 ^ k ≤ 4611686018427387904) : bits .and .i64 (x : Int) ((2 ^ k - 1 : Nat) : Int) = ((x % 2 ^ k : Nat) : Int) := by
  have h1 : 1 ≤ 2 ^ k := Nat.one_le_two_pow
  have key : (BitVec.ofInt 64 (x : Int) &&& BitVec.ofInt 64 ((2 ^ k - 1 : Nat) : Int)).toNat = x % 2 ^ k := by
    rw [BitVec.toNat_and, BitVec.toNat_ofInt, BitVec.toNat_ofInt]
    have e1 : ((x : Int) % ((2 ^ 64 : Nat) : Int)).toNat = x := by omega
    have e2 : (((2 ^ k - 1 : Nat) : Int) % ((2 ^ 64 : Nat) : Int)).toNat = 2 ^ k - 1 := by omega
    rw [e1, e2, Nat.and_two_pow_sub_one_eq_mod]
  show IntKind.i64.wrap ((BitVec.ofInt 64 (x : Int) &&& BitVec.ofInt 64 ((2 ^ k - 1 : Nat) : Int)).toNat : Nat) = _
  rw [key, IntKind.wrap_i64]
  have h2 : x % 2 ^ k ≤ x := Nat.mod_le _ _
  obtain ⟨m, hm⟩ : ∃ m, m = x % 2 ^ k := ⟨_, rfl⟩
  rw [← hm] at h2 ⊢
  omega
end Go.Tk
namespace Go.Proofs.YtlhcejbimlilaaaGreatDoor
open Go.RowKit Go.Tk
theorem trimE_calls (s : ByteArray) (w : World) (hs : s.size ≤ 9223372036854775807) : Calls Tryz.prog 82 #[.string s, .string ⟨#[61]⟩] w fun e w' => e = .returned (.string ⟨(tre s.data.toList).toArray⟩) ∧ w = w' :=
  (Tryz.strings_TrimRight_one s 61 (by decide) w hs).mono fun _ _ ⟨h, h2⟩ => ⟨h, h2.symm⟩
set_option maxHeartbeats 2000000 in
theorem base64_calls (s : ByteArray) (w : World) (hs : s.size ≤ 1000000000) : Calls Tryz.prog 34 #[.string s] w fun e w' => e = .returned (.tuple #[.string ⟨(b6R s.data.toList).1.toArray⟩, .bool (b6R s.data.toList).2]) ∧ Below w.heap.size w w' := by
  have hll : s.data.toList.length = s.size := (Lib.size_eq s).symm
  by_cases hodd : s.size % 4 ≠ 0
  · have e : b6R s.data.toList = ([], false) := by unfold b6R; rw [hll, if_pos hodd]
    rw [e]
    have ho : (((s.size : Int) % 4) != 0) = true := by rw [bne_iff_ne]; omega
    clear e hll hodd
    go_enter Tryz.func34, Tryz.ntmps34
    go_wp2_with fail
    go_ret2
    exact ⟨rfl, Below.refl _ _⟩
  have ho : (((s.size : Int) % 4) != 0) = false := by rw [bne_eq_false_iff_eq]; omega
  have htr := fun w => trimE_calls s w (by omega)
  obtain ⟨U, hU⟩ : ∃ U : ByteArray, U = ⟨(tre s.data.toList).toArray⟩ := ⟨_, rfl⟩
  have hUd : U.data.toList = tre s.data.toList := by rw [hU]
  have hUs : U.size ≤ s.size := by rw [Lib.size_eq, hUd, ← hll]; exact tre_le _
  have hUl : (tre s.data.toList).length = U.size := by rw [← hUd, Lib.size_eq]
  rw [← hU] at htr
  have HTR := Lib.hid htr
  by_cases h2 : 2 < s.size - U.size
  · have e : b6R s.data.toList = ([], false) := by unfold b6R; rw [hll, if_neg hodd, hUl, if_pos h2]
    rw [e]
    have h2' : 2 < (s.size : Int) - (U.size : Int) := by omega
    clear e hll hodd htr hU hUd hUl h2
    go_enter Tryz.func34, Tryz.ntmps34
    go_wp2_with (go_at_call 82; (with_reducible refine (HTR.out _).mono ?_); rintro e w' ⟨rfl, rfl⟩)
    go_ret2
    exact ⟨rfl, Below.refl _ _⟩
  have e : b6R s.data.toList = b6E (b6F 0 0 U.data.toList) := by unfold b6R; rw [hll, if_neg hodd, hUl, if_neg h2, hUd]
  rw [e]
  obtain ⟨O, hO⟩ : ∃ O, O = b6F 0 0 U.data.toList := ⟨_, rfl⟩
  rw [← hO]
  obtain ⟨⟨T, ok⟩, hR⟩ : ∃ R : List UInt8 × Bool, R = b6E O := ⟨_, rfl⟩
  rw [← hR]
  dsimp only
  have HR := Lib.hid hR
  clear hR
  have HO := Lib.hid hO
  have h2' : (s.size : Int) - (U.size : Int) ≤ 2 := by omega
  clear e hll hodd htr hU hUd hUl h2 hO
  go_enter Tryz.func34, Tryz.ntmps34
  go_wp2_with (go_at_call 82; (with_reducible refine (HTR.out _).mono ?_); rintro e w' ⟨rfl, rfl⟩)
  go_loopw [5, 6, 7, 8, 9, 24] (fun v bt hd _ _ i wr => ∃ (j : Nat) (acc : List UInt8) (B H : Nat), j ≤ U.size ∧ acc.length ≤ j ∧ (H = 0 ∨ H = 2 ∨ H = 4 ∨ H = 6) ∧ B < 2 ^ H ∧ bt = .int .i64 (B : Nat) ∧ hd = .int .i64 (H : Nat) ∧ i = .int .i64 (j : Nat) ∧ Ow .u8 5 w.heap.size wr v (nums acc) ∧ Below w.heap.size w wr ∧ O = (b6F B H (U.data.toList.drop j)).map (fun q => (q.1, acc ++ q.2))) (fun _ _ _ _ _ i _ => U.size - (intOf i).toNat)
  case atStart => exact ⟨0, [], 0, 0, Nat.zero_le _, Nat.le_refl _, .inl rfl, by decide, rfl, rfl, rfl, Ow.nil _ _ _ _, Below.refl _ _, by rw [HO.out]; simp⟩
  case round =>
    obtain ⟨j, acc, B, H, hj, hal, hH, hB, rfl, rfl, rfl, how, hbw, hoe⟩ := hrel
    have HOW := Lib.hid how
    have HBW := Lib.hid hbw
    by_cases hlt : j < U.size
    · have hz0 : j < U.data.toList.length := by rw [← Lib.size_eq]; exact hlt
      have hd1 : U.data.toList.drop j = U[j] :: U.data.toList.drop (j + 1) := by
        rw [List.drop_eq_getElem_cons hz0, ba_get U _ hlt]
      rw [hd1] at hoe
      obtain ⟨a, ha⟩ : ∃ a, U[j] = a := ⟨_, rfl⟩
      rw [ha] at hoe
      have hia := fun w => idx_calls ⟨b6T.toArray⟩ a w
      have bda := b6V_bd a
      obtain ⟨x, hx⟩ : ∃ x, x = b6V a := ⟨_, rfl⟩
      have hia : ∀ w, Calls Tryz.prog 81 #[.string ⟨#[65, 66, 67, 68, 69, 70, 71, 72, 73, 74, 75, 76, 77, 78, 79, 80, 81, 82, 83, 84, 85, 86, 87, 88, 89, 90, 97, 98, 99, 100, 101, 102, 103, 104, 105, 106, 107, 108, 109, 110, 111, 112, 113, 114, 115, 116, 117, 118, 119, 120, 121, 122, 48, 49, 50, 51, 52, 53, 54, 55, 56, 57, 43, 47]⟩, .int .u8 (a.toNat : Int)] w fun e w' => e = .returned (.int .i64 x) ∧ w = w' := fun w => by rw [hx]; exact hia w
      have hA : (((U[j]'hlt).toNat : Nat) : Int) = (a.toNat : Int) := by rw [ha]
      rw [← hx] at bda
      obtain ⟨bda1, bda2⟩ := bda
      have HIA := Lib.hid hia
      have HX := Lib.hid hx
      have HOE := Lib.hid hoe
      clear how hbw hz0 hd1 hia hx ha hoe
      by_cases hx0 : x < 0
      · have hfin : O = none := by rw [HOE.out, b6F_bad (by rw [← HX.out]; exact hx0)]; rfl
        have hf := HR.out
        rw [hfin] at hf
        obtain ⟨rfl, rfl⟩ := Prod.mk.inj hf
        clear hf hfin
        clear HOE hH hB
        go_wp2_with (go_at_call 81; (with_reducible refine (HIA.out _).mono ?_); rintro e w' ⟨rfl, rfl⟩)
        go_ret2
        exact ⟨rfl, HBW.out⟩
      have hx1 : 0 ≤ x := by omega
      obtain ⟨m, rfl⟩ : ∃ m : Nat, x = m := ⟨x.toNat, by omega⟩
      have hm64 : m < 64 := by omega
      have hxm : (b6V a).toNat = m := by rw [← HX.out]; rfl
      have hb0 : 0 ≤ b6V a := by rw [← HX.out]; exact hx1
      have HBV := Lib.hid hb0
      have HXM := Lib.hid hxm
      clear hx0 hxm hb0 bda1 bda2 HX
      rcases hH with rfl | rfl | rfl | rfl
      · have hB2 : B < 1 := by simpa using hB
        have hor := or_i64_add (B : Int) (m : Int) 6 (by omega) (by omega) (by omega) (by omega) (by omega)
        obtain ⟨z, hz⟩ : ∃ z, z = B * 64 + m := ⟨_, rfl⟩
        have hor : bits .or .i64 ((B : Int) * 64) (m : Int) = (z : Int) := hor.trans (by omega)
        have hz1 : z < 64 := by omega
        have hst := HOE.out
        rw [b6F_0 HBV.out, HXM.out, ← hz] at hst
        have HST := Lib.hid hst
        clear hst hz HOE hB HBV HXM
        go_wp2_with (go_at_call 81; (with_reducible refine (HIA.out _).mono ?_); rintro e w' ⟨rfl, rfl⟩)
        go_roundw
        case rel => exact ⟨j + 1, acc, z, 6, by omega, by omega, by omega, hz1, rfl, rfl, by go_num, HOW.out, HBW.out, HST.out⟩
        case measure => simp [intOf]; omega
      · have hB2 : B < 4 := by simpa using hB
        have hor := or_i64_add (B : Int) (m : Int) 6 (by omega) (by omega) (by omega) (by omega) (by omega)
        obtain ⟨z, hz⟩ : ∃ z, z = B * 64 + m := ⟨_, rfl⟩
        have hor : bits .or .i64 ((B : Int) * 64) (m : Int) = (z : Int) := hor.trans (by omega)
        have hz1 : z < 256 := by omega
        have hst := HOE.out
        rw [b6F_s (H := 0) HBV.out, HXM.out, ← hz] at hst
        have hand := and_i64 z 0 (by omega) (by decide)
        have hand : bits .and .i64 (z : Int) 0 = ((z % 1 : Nat) : Int) := hand
        obtain ⟨r, hr⟩ : ∃ r, r = z % 1 := ⟨_, rfl⟩
        rw [← hr] at hand
        obtain ⟨q, hq⟩ : ∃ q, q = z / 1 := ⟨_, rfl⟩
        have hqi : (z : Int) / 1 = (q : Int) := by omega
        have hq1 : q < 256 := by omega
        have hr1 : r < 1 := by omega
        have hnew : O = (b6F r 0 (U.data.toList.drop (j + 1))).map (fun y => (y.1, (acc ++ [UInt8.ofNat (q : Int).toNat]) ++ y.2)) := by
          rw [hst, show z % 2 ^ 0 = r from hr.symm, show z / 2 ^ 0 = q from hq.symm]
          cases b6F r 0 (U.data.toList.drop (j + 1)) <;> simp
        have hnn := nums_one acc (q : Int) (by omega) (by omega)
        have hal3 : (nums acc).length ≤ 1000000000 := by rw [nums_len]; omega
        have HNEW := Lib.hid hnew
        have HNN := Lib.hid hnn
        have hsz3 : w.heap.size ≤ wr.heap.size := HBW.out.size
        have hw6 : ((B : Int) * 64 + m) = z := by omega
        clear hst hz hr hq hnew hnn HOE hB HBV HXM hw6
        go_wp2_with (first | (go_at_call 81; (with_reducible refine (HIA.out _).mono ?_); rintro e w' ⟨rfl, rfl⟩) | (at_builtin; refine wpList_appJ rfl (.tmp 43) (.tmp 48) _ rfl .u8 w.heap.size 5 _ 1 Tryz.underlying65 Tryz.infoU8 rfl _ (nums acc) rfl (HOW.out.alloc _) _ 1 1 [(q : Int)] rfl (SlI.one _ _ _ _) (by simp) (by omega) (by omega) (by simp; omega) ?_; intro v4 w4 ow4 hg4 st4; (have OW4 := Lib.hid ow4); (have HG4 := Lib.hid hg4); clear ow4 hg4 st4))
        go_roundw
        case rel =>
          refine ⟨j + 1, acc ++ [UInt8.ofNat (q : Int).toNat], r, 0, by omega, by rw [List.length_append]; simp; omega, by omega, hr1, rfl, rfl, by go_num, by rw [HNN.out]; exact OW4.out, (HBW.out.alloc (by simpa using hsz3) _).grown HG4.out (by simp; omega) (fun k e => ?_), HNEW.out⟩
          exact (HOW.out.lt k e).1
        case measure => simp [intOf]; omega
      · have hB2 : B < 16 := by simpa using hB
        have hor := or_i64_add (B : Int) (m : Int) 6 (by omega) (by omega) (by omega) (by omega) (by omega)
        obtain ⟨z, hz⟩ : ∃ z, z = B * 64 + m := ⟨_, rfl⟩
        have hor : bits .or .i64 ((B : Int) * 64) (m : Int) = (z : Int) := hor.trans (by omega)
        have hz1 : z < 1024 := by omega
        have hst := HOE.out
        rw [b6F_s (H := 2) HBV.out, HXM.out, ← hz] at hst
        have hand := and_i64 z 2 (by omega) (by decide)
        have hand : bits .and .i64 (z : Int) 3 = ((z % 4 : Nat) : Int) := hand
        obtain ⟨r, hr⟩ : ∃ r, r = z % 4 := ⟨_, rfl⟩
        rw [← hr] at hand
        obtain ⟨q, hq⟩ : ∃ q, q = z / 4 := ⟨_, rfl⟩
        have hqi : (z : Int) / 4 = (q : Int) := by omega
        have hq1 : q < 256 := by omega
        have hr1 : r < 4 := by omega
        have hnew : O = (b6F r 2 (U.data.toList.drop (j + 1))).map (fun y => (y.1, (acc ++ [UInt8.ofNat (q : Int).toNat]) ++ y.2)) := by
          rw [hst, show z % 2 ^ 2 = r from hr.symm, show z / 2 ^ 2 = q from hq.symm]
          cases b6F r 2 (U.data.toList.drop (j + 1)) <;> simp
        have hnn := nums_one acc (q : Int) (by omega) (by omega)
        have hal3 : (nums acc).length ≤ 1000000000 := by rw [nums_len]; omega
        have HNEW := Lib.hid hnew
        have HNN := Lib.hid hnn
        have hsz3 : w.heap.size ≤ wr.heap.size := HBW.out.size
        have hw6 : ((B : Int) * 64 + m) = z := by omega
        clear hst hz hr hq hnew hnn HOE hB HBV HXM hw6
        go_wp2_with (first | (go_at_call 81; (with_reducible refine (HIA.out _).mono ?_); rintro e w' ⟨rfl, rfl⟩) | (at_builtin; refine wpList_appJ rfl (.tmp 43) (.tmp 48) _ rfl .u8 w.heap.size 5 _ 1 Tryz.underlying65 Tryz.infoU8 rfl _ (nums acc) rfl (HOW.out.alloc _) _ 1 1 [(q : Int)] rfl (SlI.one _ _ _ _) (by simp) (by omega) (by omega) (by simp; omega) ?_; intro v4 w4 ow4 hg4 st4; (have OW4 := Lib.hid ow4); (have HG4 := Lib.hid hg4); clear ow4 hg4 st4))
        go_roundw
        case rel =>
          refine ⟨j + 1, acc ++ [UInt8.ofNat (q : Int).toNat], r, 2, by omega, by rw [List.length_append]; simp; omega, by omega, hr1, rfl, rfl, by go_num, by rw [HNN.out]; exact OW4.out, (HBW.out.alloc (by simpa using hsz3) _).grown HG4.out (by simp; omega) (fun k e => ?_), HNEW.out⟩
          exact (HOW.out.lt k e).1
        case measure => simp [intOf]; omega
      · have hB2 : B < 64 := by simpa using hB
        have hor := or_i64_add (B : Int) (m : Int) 6 (by omega) (by omega) (by omega) (by omega) (by omega)
        obtain ⟨z, hz⟩ : ∃ z, z = B * 64 + m := ⟨_, rfl⟩
        have hor : bits .or .i64 ((B : Int) * 64) (m : Int) = (z : Int) := hor.trans (by omega)
        have hz1 : z < 4096 := by omega
        have hst := HOE.out
        rw [b6F_s (H := 4) HBV.out, HXM.out, ← hz] at hst
        have hand := and_i64 z 4 (by omega) (by decide)
        have hand : bits .and .i64 (z : Int) 15 = ((z % 16 : Nat) : Int) := hand
        obtain ⟨r, hr⟩ : ∃ r, r = z % 16 := ⟨_, rfl⟩
        rw [← hr] at hand
        obtain ⟨q, hq⟩ : ∃ q, q = z / 16 := ⟨_, rfl⟩
        have hqi : (z : Int) / 16 = (q : Int) := by omega
        have hq1 : q < 256 := by omega
        have hr1 : r < 16 := by omega
        have hnew : O = (b6F r 4 (U.data.toList.drop (j + 1))).map (fun y => (y.1, (acc ++ [UInt8.ofNat (q : Int).toNat]) ++ y.2)) := by
          rw [hst, show z % 2 ^ 4 = r from hr.symm, show z / 2 ^ 4 = q from hq.symm]
          cases b6F r 4 (U.data.toList.drop (j + 1)) <;> simp
        have hnn := nums_one acc (q : Int) (by omega) (by omega)
        have hal3 : (nums acc).length ≤ 1000000000 := by rw [nums_len]; omega
        have HNEW := Lib.hid hnew
        have HNN := Lib.hid hnn
        have hsz3 : w.heap.size ≤ wr.heap.size := HBW.out.size
        have hw6 : ((B : Int) * 64 + m) = z := by omega
        clear hst hz hr hq hnew hnn HOE hB HBV HXM hw6
        go_wp2_with (first | (go_at_call 81; (with_reducible refine (HIA.out _).mono ?_); rintro e w' ⟨rfl, rfl⟩) | (at_builtin; refine wpList_appJ rfl (.tmp 43) (.tmp 48) _ rfl .u8 w.heap.size 5 _ 1 Tryz.underlying65 Tryz.infoU8 rfl _ (nums acc) rfl (HOW.out.alloc _) _ 1 1 [(q : Int)] rfl (SlI.one _ _ _ _) (by simp) (by omega) (by omega) (by simp; omega) ?_; intro v4 w4 ow4 hg4 st4; (have OW4 := Lib.hid ow4); (have HG4 := Lib.hid hg4); clear ow4 hg4 st4))
        go_roundw
        case rel =>
          refine ⟨j + 1, acc ++ [UInt8.ofNat (q : Int).toNat], r, 4, by omega, by rw [List.length_append]; simp; omega, by omega, hr1, rfl, rfl, by go_num, by rw [HNN.out]; exact OW4.out, (HBW.out.alloc (by simpa using hsz3) _).grown HG4.out (by simp; omega) (fun k e => ?_), HNEW.out⟩
          exact (HOW.out.lt k e).1
        case measure => simp [intOf]; omega
    · have hfin : O = some (B, acc) := by
        rw [hoe, List.drop_of_length_le (by rw [← Lib.size_eq]; omega)]; simp [b6F]
      have hf := HR.out
      rw [hfin] at hf
      obtain ⟨rfl, hok⟩ := Prod.mk.inj hf
      clear hf hfin
      obtain ⟨va, vc, rfl, hsl, _⟩ := how.sl
      have hcv := how.str Tryz.underlying65 Tryz.underlying5 Tryz.underlying9
      have HCV := Lib.hid hcv
      have hbe : (((B : Nat) : Int) == 0) = ok := by
        rw [hok]
        by_cases hb : B = 0
        · subst hb; rfl
        · rw [beq_eq_false_iff_ne.2 hb, beq_eq_false_iff_ne]; omega
      clear hal how hbw hoe hsl hcv hB hH hok
      have hcv := HCV.out
      go_wp2_with fail
      go_ret2
      exact ⟨rfl, HBW.out⟩
end Go.Proofs.YtlhcejbimlilaaaGreatDoor
