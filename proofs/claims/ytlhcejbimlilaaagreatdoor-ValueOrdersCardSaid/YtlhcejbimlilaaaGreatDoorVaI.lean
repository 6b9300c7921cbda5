/- VaH VaI, laid as one. -/
import Derived.Test.YtlhcejbimlilaaaGreatDoorVaG
import Derived.Test.YtlhcejbimlilaaaGreatDoorUtfD
set_option linter.unusedVariables false
set_option linter.unusedSimpArgs false
/- The program's boolean, truth, great. -/
namespace Go.Tk
open Go Go.RowKit
def tTrue : List UInt8 := [116, 114, 117, 101]
def tFalse : List UInt8 := [102, 97, 108, 115, 101]
def booP (l : List UInt8) : Bool := l == tTrue || l == tFalse || l == [49] || l == [48]
def truP (l : List UInt8) : List UInt8 := if l = [49] ∨ l = tTrue then tTrue else tFalse
def gtC (c : UInt8) : UInt8 := if 97 ≤ c.toNat ∧ c.toNat ≤ 122 then c - 32 else c
def gtP (l : List UInt8) : List UInt8 := l.map gtC
/-- The first k bytes great. -/
def gtM (l : List UInt8) (k : Nat) : List UInt8 := gtP (l.take k) ++ l.drop k
theorem gtM_len (l : List UInt8) (k : Nat) : (gtM l k).length = l.length := by
  unfold gtM gtP; rw [List.length_append, List.length_map, List.length_take, List.length_drop]; omega
theorem gtM_0 (l : List UInt8) : gtM l 0 = l := rfl
theorem gtM_all (l : List UInt8) : gtM l l.length = gtP l := by unfold gtM; rw [List.take_length, List.drop_length, List.append_nil]
theorem gtM_get (l : List UInt8) (k : Nat) (h : k < l.length) (h2 : k < (gtM l k).length) : (gtM l k)[k] = l[k] := by
  simp only [gtM, gtP, List.getElem_append, List.length_map, List.length_take]
  rw [dif_neg (by omega)]
  simp only [List.getElem_drop]
  congr 1
  omega
theorem gtM_step (l : List UInt8) (k : Nat) (h : k < l.length) : (gtM l k).set k (gtC l[k]) = gtM l (k + 1) := by
  unfold gtM gtP
  have h1 : ((l.take k).map gtC).length = k := by rw [List.length_map, List.length_take]; omega
  rw [List.set_append, if_neg (by omega), h1, Nat.sub_self, List.drop_eq_getElem_cons h, List.set_cons_zero, List.take_succ_eq_append_getElem h, List.map_append, List.append_assoc]
  rfl
theorem gtM_keep (l : List UInt8) (k : Nat) (h : k < l.length) (hc : gtC l[k] = l[k]) : gtM l k = gtM l (k + 1) := by
  rw [← gtM_step l k h, hc, ← gtM_get l k h (by rw [gtM_len]; exact h), List.set_getElem_self]
/-- Bytes in a block of the call's own, by []byte(s): they may be written. -/
structure BtR (w x : World) (l : List UInt8) : Prop where
  cell : ∀ i (h : i < l.length), x.cell? ⟨w.heap.size, i, none⟩ = some (.int .u8 ((l[i]).toNat : Int))
  free : ∀ i, i < l.length → x.frozen? ⟨w.heap.size, i, none⟩ = false
  below : Below w.heap.size w x
theorem BtR.set {w x : World} {l : List UInt8} (h : BtR w x l) (i : Nat) (hi : i < l.length) (c : UInt8) : BtR w (x.setCell ⟨w.heap.size, i, none⟩ (.int .u8 (c.toNat : Int))) (l.set i c) := by
  refine ⟨fun j hj => ?_, fun j hj => ?_, h.below.setCell (by simp) _⟩
  · have hj2 : j < l.length := by simpa using hj
    by_cases e : j = i
    · subst e
      rw [World.cell?_setCell_same _ _ _ (h.cell j hj2), List.getElem_set_self]
    · rw [World.cell?_setCell_other _ _ _ _ (by first | (simp; done) | (simp; exact fun h => e h.symm)), h.cell j hj2]
      simp [List.getElem_set, Ne.symm e]
  · have hj2 : j < l.length := by simpa using hj
    rw [World.frozen?_setCell]; exact h.free j hj2
theorem wpList_toOwn {P : Program} {w : World} {ops : Array Oper} {rest : List Oper} {o : Oper} {a : Act} {Q : Exit → Act → World → Prop} (hg : o.guard = none) (x : Operand) (src dst : TypeId)
    (ho : o.op = .convert src dst x) (s : ByteArray) (hx : a.eval x = .string s) (e : TypeId) (hs : P.underlying src = some .string) (hd : P.underlying dst = some (.slice e)) (he : P.underlying e = some (.int .u8)) (hz : s.size ≤ 9223372036854775807)
    (hK : ∀ w' c, BtR w w' s.data.toList → s.size ≤ c → c ≤ 9223372036854775807 → wpList P ops Q rest (a.put o.dst (.slice (some ⟨w.heap.size, 0, none⟩) s.size c)) w') :
    wpList P ops Q (o :: rest) a w := by
  refine wpList_plain hg fun K hK' => ?_
  have hrun := run_bytes_of_string (P := P) w src dst e s hs hd he
  unfold Oper.wp
  simp only [execOp, ho, hx, Sem.run_bind, hrun, Result.andThen, Sem.run_pure, Oper.upon]
  have hc1 := grownCap_ge w s.size 0 e
  have hc2 := grownCap_le_maxLen w s.size 0 e (by simpa [maxLen] using hz)
  refine hK' _ _ (hK _ _ ⟨fun i hi => ?_, fun i hi => ?_, below_drewN (Below.refl _ _) 1 |>.alloc (Nat.le_refl _) _⟩ hc1 (by simpa [maxLen] using hc2))
  · have := World.cell?_alloc_mark w.drew (bytesRow s (grownCap w s.size 0 e)) e ((bytesRow s (grownCap w s.size 0 e)).size, (bytesRow s (grownCap w s.size 0 e)).size + 1) i
    refine this.trans ?_
    unfold bytesRow
    have hi' : i < s.data.size := hi
    rw [Array.getElem?_append_left (by simpa using hi'), Array.getElem?_map, Array.getElem?_eq_getElem hi']
    rfl
  · have hi' : i < s.data.size := hi
    have := World.frozen?_alloc_mark w.drew (bytesRow s (grownCap w s.size 0 e)) e (bytesRow s (grownCap w s.size 0 e)).size ((bytesRow s (grownCap w s.size 0 e)).size + 1) i
    refine this.trans ?_
    have hsz : i < (bytesRow s (grownCap w s.size 0 e)).size := by
      unfold bytesRow; rw [Array.size_append, Array.size_map]; omega
    rw [decide_eq_false (by omega)]; rfl
theorem BtR.str {P : Program} {w x : World} {l : List UInt8} {src dst e : TypeId} (h : BtR w x l) (hs : P.underlying src = some (.slice e)) (he : P.underlying e = some (.int .u8)) (hd : P.underlying dst = some .string) (cap : Nat) :
    (convert src dst (.slice (some ⟨w.heap.size, 0, none⟩) l.length cap)).run P x = .ok (.string ⟨l.toArray⟩) x :=
  run_convert_bytes_back x src dst e ⟨w.heap.size, 0, none⟩ cap l hs he hd fun j hj => by
    rw [Addr.add_lit, Nat.zero_add]
    exact h.cell j hj
end Go.Tk
namespace Go.Proofs.YtlhcejbimlilaaaGreatDoor
open Go.RowKit Go.Tk
theorem boolean_calls (s : ByteArray) (w : World) : Calls Tryz.prog 49 #[.string s] w fun e w' => e = .returned (.bool (booP s.data.toList)) ∧ w = w' := by
  have d1 := Lib.toList_data s
  have e1 : (s.toList == [116, 114, 117, 101]) = (s.data.toList == tTrue) := by rw [d1]; rfl
  have e2 : (s.toList == [102, 97, 108, 115, 101]) = (s.data.toList == tFalse) := by rw [d1]; rfl
  have e3 : (s.toList == [49]) = (s.data.toList == [49]) := by rw [d1]
  have e4 : (s.toList == [48]) = (s.data.toList == [48]) := by rw [d1]
  have hb : booP s.data.toList = (s.data.toList == tTrue || s.data.toList == tFalse || s.data.toList == [49] || s.data.toList == [48]) := rfl
  rw [hb]
  cases h1 : s.data.toList == tTrue with
  | true =>
    rw [h1] at e1
    clear hb d1 e2 e3 e4 h1
    go_enter Tryz.func49, Tryz.ntmps49
    go_wp2_with fail
    go_ret
    exact ⟨rfl, rfl⟩
  | false =>
  rw [h1] at e1
  cases h2 : s.data.toList == tFalse with
  | true =>
    rw [h2] at e2
    clear hb d1 e3 e4 h1 h2
    go_enter Tryz.func49, Tryz.ntmps49
    go_wp2_with fail
    go_ret
    exact ⟨rfl, rfl⟩
  | false =>
  rw [h2] at e2
  cases h3 : s.data.toList == [49] with
  | true =>
    rw [h3] at e3
    clear hb d1 e4 h1 h2 h3
    go_enter Tryz.func49, Tryz.ntmps49
    go_wp2_with fail
    go_ret
    exact ⟨rfl, rfl⟩
  | false =>
  rw [h3] at e3
  cases h4 : s.data.toList == [48] with
  | true =>
    rw [h4] at e4
    clear hb d1 h1 h2 h3 h4
    go_enter Tryz.func49, Tryz.ntmps49
    go_wp2_with fail
    go_ret
    exact ⟨rfl, rfl⟩
  | false =>
    rw [h4] at e4
    clear hb d1 h1 h2 h3 h4
    go_enter Tryz.func49, Tryz.ntmps49
    go_wp2_with fail
    go_ret
    exact ⟨rfl, rfl⟩
theorem truth_calls (s : ByteArray) (w : World) : Calls Tryz.prog 31 #[.string s] w fun e w' => e = .returned (.tuple #[.string ⟨(truP s.data.toList).toArray⟩, .bool true]) ∧ w = w' := by
  have d1 := Lib.toList_data s
  by_cases h1 : s.data.toList = [49]
  · have e : truP s.data.toList = tTrue := by unfold truP; rw [if_pos (.inl h1)]
    have e1 : (s.toList == [49]) = true := by rw [d1, h1]; rfl
    rw [e]
    clear e h1 d1
    go_enter Tryz.func31, Tryz.ntmps31
    go_wp2_with fail
    go_ret2
    exact ⟨rfl, rfl⟩
  · have e1 : (s.toList == [49]) = false := by rw [d1]; exact beq_false_of_ne h1
    by_cases h2 : s.data.toList = tTrue
    · have e : truP s.data.toList = tTrue := by unfold truP; rw [if_pos (.inr h2)]
      have e2 : (s.toList == [116, 114, 117, 101]) = true := by rw [d1, h2]; rfl
      rw [e]
      clear e h1 h2 d1
      go_enter Tryz.func31, Tryz.ntmps31
      go_wp2_with fail
      go_ret2
      exact ⟨rfl, rfl⟩
    · have e : truP s.data.toList = tFalse := by unfold truP; rw [if_neg (by intro h; rcases h with h | h; exact h1 h; exact h2 h)]
      have e2 : (s.toList == [116, 114, 117, 101]) = false := by rw [d1]; exact beq_false_of_ne h2
      rw [e]
      clear e h1 h2 d1
      go_enter Tryz.func31, Tryz.ntmps31
      go_wp2_with fail
      go_ret2
      exact ⟨rfl, rfl⟩
set_option maxHeartbeats 1000000 in
theorem great_calls (s : ByteArray) (w : World) (hs : s.size ≤ 4000000000) : Calls Tryz.prog 63 #[.string s] w fun e w' => e = .returned (.tuple #[.string ⟨(gtP s.data.toList).toArray⟩, .bool true]) ∧ Below w.heap.size w w' := by
  obtain ⟨L, hL⟩ : ∃ L, L = s.data.toList := ⟨_, rfl⟩
  have hl : L.length = s.size := by rw [hL, Lib.size_eq]
  rw [← hL]
  have HL := Lib.hid hl
  have HS := Lib.hid hL
  clear hl hL
  go_enter Tryz.func63, Tryz.ntmps63
  go_wp2_with (refine wpList_toOwn rfl (.tmp 7) 9 65 rfl _ rfl 5 Tryz.underlying9 Tryz.underlying65 Tryz.underlying5 (by omega) ?_; intro w1 c hB hc1 hc2; (have HB := Lib.hid hB); clear hB)
  go_loopw [5, 6, 11] (fun _ _ i wr => ∃ k : Nat, k ≤ s.size ∧ i = .int .i64 (k : Nat) ∧ BtR w wr (gtM L k)) (fun _ _ i _ => s.size - (intOf i).toNat)
  case atStart => exact ⟨0, Nat.zero_le _, rfl, by rw [gtM_0, HS.out]; exact HB.out⟩
  case round =>
    obtain ⟨k, hk, rfl, hR⟩ := hrel
    by_cases hlt : k < s.size
    · have hkl : k < L.length := by rw [HL.out]; exact hlt
      have hkm : k < (gtM L k).length := by rw [gtM_len]; exact hkl
      have hce := hR.cell k hkm
      rw [gtM_get L k hkl hkm] at hce
      have hfz := hR.free k hkm
      obtain ⟨b, hb⟩ : ∃ b, b = L[k] := ⟨_, rfl⟩
      rw [← hb] at hce
      obtain ⟨x, hx⟩ : ∃ x : Int, x = (b.toNat : Int) := ⟨_, rfl⟩
      rw [← hx] at hce
      have x0 : 0 ≤ x := by omega
      have x1 : x < 256 := by have := UInt8.toNat_lt b; omega
      by_cases c1 : 97 ≤ x ∧ x ≤ 122
      · have hg : (gtC b).toNat = b.toNat - 32 := by
          unfold gtC; rw [if_pos (by omega)]
          rw [UInt8.toNat_sub_of_le _ _ (by rw [UInt8.le_iff_toNat_le]; show 32 ≤ _; omega)]; rfl
        have hst := hR.set k hkm (gtC b)
        rw [show (((gtC b).toNat : Nat) : Int) = x - 32 by omega] at hst
        rw [hb] at hst
        rw [gtM_step L k hkl] at hst
        obtain ⟨c1a, c1b⟩ := c1
        have HST := Lib.hid hst
        clear hst hg hb hx hR
        go_wp2_with fail
        go_roundw
        case rel => exact ⟨k + 1, by omega, by go_num, HST.out⟩
        case measure => simp [intOf]; omega
      · have hg : gtC b = b := by unfold gtC; rw [if_neg (by omega)]
        have hke := gtM_keep L k hkl (by rw [← hb]; exact hg)
        rw [hke] at hR
        have HR := Lib.hid hR
        clear hg hke hb hx hR
        by_cases c2 : 97 ≤ x
        · have c3 : 122 < x := by omega
          clear c1
          go_wp2_with fail
          go_roundw
          case rel => exact ⟨k + 1, by omega, by go_num, HR.out⟩
          case measure => simp [intOf]; omega
        · clear c1
          go_wp2_with fail
          go_roundw
          case rel => exact ⟨k + 1, by omega, by go_num, HR.out⟩
          case measure => simp [intOf]; omega
    · have hke : gtM L k = gtP L := by rw [show k = L.length by rw [HL.out]; omega, gtM_all]
      have hst := hR.str Tryz.underlying65 Tryz.underlying5 Tryz.underlying9 c
      rw [hke] at hst
      have hgl : (gtP L).length = s.size := by unfold gtP; rw [List.length_map, HL.out]
      rw [hgl] at hst
      have HB2 := Lib.hid hR.below
      clear hke hR hgl
      go_wp2_with fail
      go_ret2
      exact ⟨rfl, HB2.out⟩
end Go.Proofs.YtlhcejbimlilaaaGreatDoor
/- The program's hex, base64. -/
namespace Go.Tk
open Go Go.RowKit
def hxT : List UInt8 := [48, 49, 50, 51, 52, 53, 54, 55, 56, 57, 65, 66, 67, 68, 69, 70]
def hxV (c : UInt8) : Int := Lib.indexByte hxT c
/-- The bytes that signs tell, two a byte. -/
def hexP : List UInt8 → Option (List UInt8)
  | [] => some []
  | [_] => none
  | a :: b :: t => if hxV a < 0 ∨ hxV b < 0 then none else (hexP t).map (UInt8.ofNat (hxV a * 16 + hxV b).toNat :: ·)
theorem indexByte_lt (l : List UInt8) (c : UInt8) : Lib.indexByte l c < l.length := by
  induction l with
  | nil => simp [Lib.indexByte]
  | cons x l ih =>
    simp only [Lib.indexByte]
    split
    · simp only [List.length_cons]; omega
    · split
      · simp only [List.length_cons]; omega
      · simp only [List.length_cons]; omega
theorem hxV_bd (c : UInt8) : -1 ≤ hxV c ∧ hxV c ≤ 15 := by
  have h1 := Lib.indexByte_ge hxT c
  have h2 := indexByte_lt hxT c
  unfold hxV
  simp [hxT] at h2
  exact ⟨h1, by simp only [hxT]; omega⟩
theorem hexP_odd : ∀ (l : List UInt8), l.length % 2 = 1 → hexP l = none
  | [], h => by simp at h
  | [_], _ => rfl
  | a :: b :: t, h => by
    simp only [hexP]
    split
    · rfl
    · rw [hexP_odd t (by simp at h; omega)]; rfl
theorem hexP_bad {a b : UInt8} {t : List UInt8} (h : hxV a < 0 ∨ hxV b < 0) : hexP (a :: b :: t) = none := by simp only [hexP]; rw [if_pos h]
theorem hexP_ok {a b : UInt8} {t : List UInt8} (h1 : 0 ≤ hxV a) (h2 : 0 ≤ hxV b) : hexP (a :: b :: t) = (hexP t).map (UInt8.ofNat (hxV a * 16 + hxV b).toNat :: ·) := by simp only [hexP]; rw [if_neg (by omega)]
theorem or_i64 (x y : Nat) (hx : x < 4611686018427387904) (hy : y < 4611686018427387904) : bits .or .i64 (x : Int) (y : Int) = ((x ||| y : Nat) : Int) := by
  have key : (BitVec.ofInt 64 (x : Int) ||| BitVec.ofInt 64 (y : Int)).toNat = x ||| y := by
    rw [BitVec.toNat_or, BitVec.toNat_ofInt, BitVec.toNat_ofInt]
    have e1 : ((x : Int) % ((2 ^ 64 : Nat) : Int)).toNat = x := by omega
    have e2 : ((y : Int) % ((2 ^ 64 : Nat) : Int)).toNat = y := by omega
    rw [e1, e2]
  show IntKind.i64.wrap ((BitVec.ofInt 64 (x : Int) ||| BitVec.ofInt 64 (y : Int)).toNat : Nat) = _
  rw [key, IntKind.wrap_i64]
  have : x ||| y < 2 ^ 62 := Nat.or_lt_two_pow hx hy
  omega
theorem or_i64_add (x y : Int) (k : Nat) (hx0 : 0 ≤ x) (hx : x * 2 ^ k < 4611686018427387904) (hy0 : 0 ≤ y) (hy : y < 2 ^ k) (hk : 2 ^ k < 4611686018427387904) : bits .or .i64 (x * 2 ^ k) y = x * 2 ^ k + y := by
  obtain ⟨a, rfl⟩ : ∃ a : Nat, x = a := ⟨x.toNat, by omega⟩
  obtain ⟨b, rfl⟩ : ∃ b : Nat, y = b := ⟨y.toNat, by omega⟩
  have e : (a : Int) * 2 ^ k = ((a * 2 ^ k : Nat) : Int) := by rw [Int.natCast_mul, Int.natCast_pow]; rfl
  have hb : b < 2 ^ k := by exact_mod_cast hy
  have h1 : a * 2 ^ k < 4611686018427387904 := by
    rw [e] at hx
    obtain ⟨m, hm⟩ : ∃ m, m = a * 2 ^ k := ⟨_, rfl⟩
    rw [← hm] at hx ⊢
    omega
  rw [e, or_i64 _ _ h1 (by omega), Nat.mul_comm, ← Nat.two_pow_add_eq_or_of_lt hb, Int.natCast_add]
theorem nums_one (acc : List UInt8) (z : Int) (h0 : 0 ≤ z) (h1 : z < 256) : nums (acc ++ [UInt8.ofNat z.toNat]) = nums acc ++ [z] := by
  rw [nums_append]
  congr 1
  unfold nums
  simp
  omega
end Go.Tk
namespace Go.Proofs.YtlhcejbimlilaaaGreatDoor
open Go.RowKit Go.Tk
theorem idx_calls (t : ByteArray) (b : UInt8) (w : World) : Calls Tryz.prog 81 #[.string t, .int .u8 (b.toNat : Int)] w fun e w' => e = .returned (.int .i64 (Lib.indexByte t.data.toList b)) ∧ w = w' :=
  (Tryz.strings_IndexByte t (b.toNat : Int) w).mono fun _ _ ⟨h, h2⟩ => ⟨by rw [h]; simp, h2.symm⟩
set_option maxHeartbeats 1000000 in
theorem hex_calls (s : ByteArray) (w : World) (hs : s.size ≤ 1000000000) : Calls Tryz.prog 33 #[.string s] w fun e w' => e = .returned (.tuple #[.string ⟨((hexP (gtP s.data.toList)).getD []).toArray⟩, .bool (hexP (gtP s.data.toList)).isSome]) ∧ Below w.heap.size w w' := by
  have hgr := fun w => great_calls s w (by omega)
  have hll : (gtP s.data.toList).length = s.size := by unfold gtP; rw [List.length_map, Lib.size_eq]
  obtain ⟨U, hU⟩ : ∃ U : ByteArray, U = ⟨(gtP s.data.toList).toArray⟩ := ⟨_, rfl⟩
  have hUd : U.data.toList = gtP s.data.toList := by rw [hU]
  rw [← hU] at hgr
  rw [← hUd] at hll ⊢
  have hUs : U.size = s.size := by rw [Lib.size_eq, hll]
  have HGR := Lib.hid hgr
  by_cases hodd : s.size % 2 = 1
  · rw [hexP_odd U.data.toList (by rw [hll]; exact hodd)]
    have ho : (((s.size : Int) % 2) != 0) = true := by rw [bne_iff_ne]; omega
    clear hgr hll hU hUd hUs hodd
    go_enter Tryz.func33, Tryz.ntmps33
    go_wp2_with fail
    go_ret2
    exact ⟨rfl, Below.refl _ _⟩
  · have ho : (((s.size : Int) % 2) != 0) = false := by rw [bne_eq_false_iff_eq]; omega
    obtain ⟨O, hO⟩ : ∃ O, O = hexP U.data.toList := ⟨_, rfl⟩
    rw [← hO]
    have HO := Lib.hid hO
    have hu2 : U.size ≤ s.size := by omega
    have hu3 : s.size ≤ U.size := by omega
    have hpar : s.size % 2 = 0 := by omega
    have HPAR := Lib.hid hpar
    clear hgr hll hU hUd hUs hodd hO hpar
    go_enter Tryz.func33, Tryz.ntmps33
    go_wp2_with (go_at_call 63; (with_reducible refine (HGR.out _).mono ?_); rintro e w1 ⟨rfl, hb1⟩; (have HB1 := Lib.hid hb1); clear hb1)
    go_loopw [6, 7, 8, 9] (fun v i _ _ wr => ∃ (j : Nat) (acc : List UInt8), j ≤ s.size ∧ j = 2 * acc.length ∧ i = .int .i64 (j : Nat) ∧ Ow .u8 5 w.heap.size wr v (nums acc) ∧ Below w.heap.size w wr ∧ O = (hexP (U.data.toList.drop j)).map (acc ++ ·)) (fun _ i _ _ _ => s.size - (intOf i).toNat)
    case atStart => exact ⟨0, [], Nat.zero_le _, rfl, rfl, Ow.nil _ _ _ _, HB1.out, by rw [HO.out]; simp⟩
    case round =>
      obtain ⟨j, acc, hj, hal, rfl, how, hbw, hoe⟩ := hrel
      have HAL := Lib.hid hal
      have HOW := Lib.hid how
      have HBW := Lib.hid hbw
      by_cases hlt : j < s.size
      · have hlt2 : j + 1 < s.size := by have := HPAR.out; omega
        clear hal how hbw
        have hk1 : j + 1 < U.size := by omega
        have hk0 : j < U.size := by omega
        have hz0 : j < U.data.toList.length := by rw [← Lib.size_eq]; exact hk0
        have hz1 : j + 1 < U.data.toList.length := by rw [← Lib.size_eq]; exact hk1
        have hd1 : U.data.toList.drop j = U[j] :: U[j + 1] :: U.data.toList.drop (j + 2) := by
          rw [show j + 2 = j + 1 + 1 by omega, List.drop_eq_getElem_cons hz0, List.drop_eq_getElem_cons hz1, ba_get U _ hk0, ba_get U _ hk1]
        rw [hd1] at hoe
        obtain ⟨a, ha⟩ : ∃ a, U[j] = a := ⟨_, rfl⟩
        obtain ⟨b, hb⟩ : ∃ b, U[j + 1] = b := ⟨_, rfl⟩
        rw [ha, hb] at hoe
        have hia := fun w => idx_calls ⟨hxT.toArray⟩ a w
        have hib := fun w => idx_calls ⟨hxT.toArray⟩ b w
        have bda := hxV_bd a
        have bdb := hxV_bd b
        obtain ⟨x, hx⟩ : ∃ x, x = hxV a := ⟨_, rfl⟩
        obtain ⟨y, hy⟩ : ∃ y, y = hxV b := ⟨_, rfl⟩
        have hia : ∀ w, Calls Tryz.prog 81 #[.string ⟨#[48, 49, 50, 51, 52, 53, 54, 55, 56, 57, 65, 66, 67, 68, 69, 70]⟩, .int .u8 (a.toNat : Int)] w fun e w' => e = .returned (.int .i64 x) ∧ w = w' := fun w => by rw [hx]; exact hia w
        have hib : ∀ w, Calls Tryz.prog 81 #[.string ⟨#[48, 49, 50, 51, 52, 53, 54, 55, 56, 57, 65, 66, 67, 68, 69, 70]⟩, .int .u8 (b.toNat : Int)] w fun e w' => e = .returned (.int .i64 y) ∧ w = w' := fun w => by rw [hy]; exact hib w
        rw [← hx] at bda
        rw [← hy] at bdb
        have hbad := fun h => hexP_bad (a := a) (b := b) (t := U.data.toList.drop (j + 2)) h
        have hok := fun h1 h2 => hexP_ok (a := a) (b := b) (t := U.data.toList.drop (j + 2)) h1 h2
        rw [← hx, ← hy] at hbad hok
        obtain ⟨bda1, bda2⟩ := bda
        obtain ⟨bdb1, bdb2⟩ := bdb
        have HIA := Lib.hid hia
        have HIB := Lib.hid hib
        have HBAD := Lib.hid hbad
        have HOK := Lib.hid hok
        have HOE := Lib.hid hoe
        have hA : (((U[j]'hk0).toNat : Nat) : Int) = (a.toNat : Int) := by rw [ha]
        have hB : (((U[j + 1]'hk1).toNat : Nat) : Int) = (b.toNat : Int) := by rw [hb]
        have hw1 : IntKind.i64.wrap ((j : Int) + 1) = (j : Int) + 1 := by rw [IntKind.wrap_i64]; omega
        have hn1 : ((j : Int) + 1).toNat = j + 1 := by omega
        have hn2 : 0 ≤ (j : Int) + 1 := by omega
        clear hz0 hz1 hd1 hia hib hx hy hoe ha hb hbad hok
        go_upto_region 8 with fail
        refine wp_region_lw (by kernel_rfl) (by kernel_rfl) ?_
        repeat (go_big_quiet_step (first | exact rfl | (go_at_call 81; with_reducible exact lw_same (HIA.out _)) | (go_at_call 81; with_reducible exact lw_same (HIB.out _))))
        refine wpQuiet_nil ?_
        rintro ⟨w3, hb3⟩
        dsimp only
        clear hw1 hn1 hn2 hA hB HIA HIB
        have hbw3 := HBW.out.trans (hb3.mono HBW.out.size)
        by_cases hx0 : x < 0
        · have hfin : O = none := by rw [HOE.out, HBAD.out (.inl hx0)]; rfl
          subst hfin
          clear HOE HBAD HOK
          go_wp2_with fail
          go_ret2
          exact ⟨rfl, hbw3⟩
        by_cases hy0 : y < 0
        · have hfin : O = none := by rw [HOE.out, HBAD.out (.inr hy0)]; rfl
          subst hfin
          clear HOE HBAD HOK
          go_wp2_with fail
          go_ret2
          exact ⟨rfl, hbw3⟩
        have hx1 : 0 ≤ x := by omega
        have hy1 : 0 ≤ y := by omega
        have hnew : O = (hexP (U.data.toList.drop (j + 2))).map ((acc ++ [UInt8.ofNat (x * 16 + y).toNat]) ++ ·) := by
          rw [HOE.out, HOK.out hx1 hy1]
          cases hexP (U.data.toList.drop (j + 2)) <;> simp
        have HNEW := Lib.hid hnew
        clear hnew HOE HBAD HOK hx0 hy0
        have hor := or_i64_add x y 4 hx1 (by omega) hy1 (by omega) (by omega)
        obtain ⟨z, hz⟩ : ∃ z, z = x * 2 ^ 4 + y := ⟨_, rfl⟩
        rw [← hz] at hor
        have hz0 : 0 ≤ z := by omega
        have hz1 : z < 256 := by omega
        have hor : bits .or .i64 (x * 16) y = z := hor
        have hnn := nums_one acc z hz0 hz1
        have hnz : UInt8.ofNat (x * 16 + y).toNat = UInt8.ofNat z.toNat := by rw [hz]; rfl
        have how3 : Ow .u8 5 w.heap.size w3 u6 (nums acc) := HOW.out.below hb3 (fun g hg => (HOW.out.lt g hg).2)
        have hal3 : (nums acc).length ≤ 1000000000 := by rw [nums_len]; have := HAL.out; omega
        have HOW3 := Lib.hid how3
        have HNN := Lib.hid hnn
        have HNZ := Lib.hid hnz
        have hsz3 : w.heap.size ≤ w3.heap.size := hbw3.size
        have HBW3 := Lib.hid hbw3
        clear hnn hnz how3 hz hb3 hbw3
        go_wp2_with (at_builtin; refine wpList_appJ rfl (.tmp 40) (.tmp 46) _ rfl .u8 w.heap.size 5 _ 1 Tryz.underlying65 Tryz.infoU8 rfl _ (nums acc) rfl (HOW3.out.alloc _) _ 1 1 [z] rfl (SlI.one _ _ _ _) (by simp) (by omega) (by omega) (by simp; omega) ?_; intro v4 w4 ow4 hg4 st4; (have OW4 := Lib.hid ow4); (have HG4 := Lib.hid hg4); clear ow4 hg4 st4)
        go_roundw
        case rel =>
          refine ⟨j + 2, acc ++ [UInt8.ofNat z.toNat], by omega, by rw [List.length_append]; have := HAL.out; simp; omega, by go_num, by rw [HNN.out]; exact OW4.out, (HBW3.out.alloc (by simpa using hsz3) _).grown HG4.out (by simp; omega) (fun k e => ?_), by rw [← HNZ.out]; exact HNEW.out⟩
          exact (HOW3.out.lt k e).1
        case measure => simp [intOf]; omega
      · have hje : j = s.size := by omega
        have hfin : O = some acc := by
          rw [hoe, List.drop_of_length_le (by rw [← Lib.size_eq]; omega)]; simp [hexP]
        subst hfin
        obtain ⟨va, vc, rfl, hsl, _⟩ := how.sl
        have hcv := how.str Tryz.underlying65 Tryz.underlying5 Tryz.underlying9
        have HCV := Lib.hid hcv
        clear hal how hoe hsl hcv hje
        have hcv := HCV.out
        go_wp2_with fail
        go_ret2
        exact ⟨rfl, HBW.out⟩
end Go.Proofs.YtlhcejbimlilaaaGreatDoor
