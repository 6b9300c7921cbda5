/- Open, Len, Get of packed numbers. -/
import Derived.Test.YtgajpekolamjbaaDoorPkP
import Derived.Test.YtgajpekolamjbaaDoorBitsPackD
import Derived.Laws.EntriesVeiled
import Derived.Laws.Tables
set_option linter.unusedVariables false
set_option linter.unusedSimpArgs false
namespace Go.Tk
open Go Go.RowKit
theorem or_u64 (x y : Nat) (hx : x < 18446744073709551616) (hy : y < 18446744073709551616) : bits .or .u64 (x : Int) (y : Int) = ((x ||| y : Nat) : Int) := by
  have key : (BitVec.ofInt 64 (x : Int) ||| BitVec.ofInt 64 (y : Int)).toNat = x ||| y := by
    rw [BitVec.toNat_or, BitVec.toNat_ofInt, BitVec.toNat_ofInt]
    have e1 : ((x : Int) % ((2 ^ 64 : Nat) : Int)).toNat = x := by omega
    have e2 : ((y : Int) % ((2 ^ 64 : Nat) : Int)).toNat = y := by omega
    rw [e1, e2]
  show IntKind.u64.wrap ((BitVec.ofInt 64 (x : Int) ||| BitVec.ofInt 64 (y : Int)).toNat : Nat) = _
  rw [key, IntKind.wrap_u64]
  have : x ||| y < 2 ^ 64 := Nat.or_lt_two_pow hx hy
  omega
theorem bit_val : ∀ y : Fin 256, ∀ j : Fin 8, bits .and .u8 ((y.val : Int) / 2 ^ j.val) 1 = if y.val.testBit j.val = true then 1 else 0 := by decide +kernel
theorem step_val (N y r k : Nat) (hN : N < 18446744073709551616) (hy : y < 256) (hr : r < 8) (hk : k < 64) : bits .or .u64 (N : Int) (IntKind.u64.wrap (IntKind.u64.wrap (bits .and .u8 ((y : Int) / 2 ^ r) 1) * 2 ^ k)) = ((N ||| (if y.testBit r = true then 2 ^ k else 0) : Nat) : Int) := by
  have hb := bit_val ⟨y, hy⟩ ⟨r, hr⟩
  simp only at hb
  rw [hb]
  have h2 : (2 : Nat) ^ k < 18446744073709551616 := by
    have : (2 : Nat) ^ k < 2 ^ 64 := Nat.pow_lt_pow_right (by omega) hk
    omega
  by_cases h : y.testBit r = true
  · rw [if_pos h, if_pos h]
    have e1 : IntKind.u64.wrap 1 = 1 := rfl
    have e2 : (2 : Int) ^ k = ((2 ^ k : Nat) : Int) := by rw [Int.natCast_pow]; rfl
    rw [e1, Int.one_mul, e2, IntKind.wrap_u64]
    generalize 2 ^ k = m at h2 ⊢
    rw [show (m : Int) % 18446744073709551616 = (m : Int) by omega]
    exact or_u64 N m hN h2
  · rw [if_neg h, if_neg h]
    have e1 : IntKind.u64.wrap 0 = 0 := rfl
    rw [e1, Int.zero_mul, e1]
    exact or_u64 N 0 hN (by omega)
/-- What Open says of so many numbers in bytes. -/
def opErr (zs : List Int) (n wd : Int) : Int :=
  if ¬ (0 ≤ wd ∧ wd ≤ 64) ∨ n < 0 ∨ 2147483647 < n then 14 else if (zs.length : Int) < (n * wd + 7) / 8 then 10 else if (n * wd + 7) / 8 < (zs.length : Int) then 13
  else if 0 < (n * wd) % 8 ∧ zs.getD (zs.length - 1) 0 / 2 ^ ((n * wd) % 8).toNat ≠ 0 then 12 else 0
def opVal (zs : List Int) (a : Option Addr) (c : Nat) (n wd : Int) : Value := if opErr zs n wd = 0 then .agg #[.slice a zs.length c, .int .i64 n, .int .i64 wd] else .agg #[.slice none 0 0, .int .i64 0, .int .i64 0]
theorem stor3 {w : World} {g : Nat} {x y z u v t : Value} {e : TypeId} (h : w.heap[g]? = some (.cells #[x, y, z] e (0, 0))) : (((w.setCell ⟨g, 0, none⟩ u).setCell ⟨g, 1, none⟩ v).setCell ⟨g, 2, none⟩ t).heap[g]? = some (.cells #[u, v, t] e (0, 0)) :=
  heap_setCell_same _ _ 2 _ _ _ (heap_setCell_same _ _ 1 _ _ _ (heap_setCell_same _ _ 0 _ _ _ h))
theorem results_ct {P : Program} {fn : Func} {p q : Tmp} {ty : TypeId} (h : fn.results = #[.cell p ty, .tmp q]) (tmps : Array Value) (w : World) (g : Nat) (t : TypeId) (cs : Array Value) (fr : Nat × Nat) (d : TypeDesc)
    (hp : tmps.getD p undef = .pointer (some ⟨g, 0, none⟩)) (hg : w.heap[g]? = some (.cells cs t fr))
    (hu : P.underlying ty = some d) (hd : (match d with | .struct _ | .array _ _ => true | _ => false) = true) (hi : (P.info? ty).map (·.size) = some cs.size) :
    (results fn tmps).run P w = .ok (.tuple #[.agg cs, tmps.getD q undef]) w := by
  have hp' : tmps[p]?.getD undef = .pointer (some ⟨g, 0, none⟩) := by simpa using hp
  simp [results, h, hp', asAddr, run_loadVar_row w g t ty cs fr d hg hu hd hi]
end Go.Tk
namespace Go.Proofs.YtgajpekolamjbaaDoor
open Go.RowKit Go.Tk
theorem Tryd.sizePk : (Tryd.prog.info? 104).map (·.size) = some 3 := by kernel_rfl
set_option maxRecDepth 100000 in
set_option maxHeartbeats 2000000 in
theorem popen_calls (w : World) (a : Option Addr) (L c : Nat) (zs : List Int) (h : SlI .u8 w a L c zs) (hu : U8 zs) (n wd : Int) :
    Calls Tryd.prog 36 #[.slice a L c, .int .i64 n, .int .i64 wd] w fun e w' => e = .returned (.tuple #[opVal zs a c n wd, .int .i64 (opErr zs n wd)]) ∧ Below w.heap.size w w' := by
  have hll := h.len
  have hlc := h.le
  have hmx := h.max
  have hrow : (w.alloc (.cells #[.slice none 0 0, .int .i64 0, .int .i64 0] 104)).heap[w.heap.size]? = some (.cells #[.slice none 0 0, .int .i64 0, .int .i64 0] 104 (0, 0)) := heap_alloc_new w _
  have hb0 : Below w.heap.size w (w.alloc (.cells #[.slice none 0 0, .int .i64 0, .int .i64 0] 104)) := (Below.refl _ _).alloc (Nat.le_refl _) _
  obtain ⟨e0, he0⟩ : ∃ e0, e0 = opErr zs n wd := ⟨_, rfl⟩
  have hend0 : e0 ≠ 0 → opVal zs a c n wd = .agg #[.slice none 0 0, .int .i64 0, .int .i64 0] := fun hne => by unfold opVal; rw [if_neg (by rw [← he0]; exact hne)]
  have HE := Lib.hid he0
  have HROW := Lib.hid hrow
  have HB := Lib.hid hb0
  have HEND := Lib.hid hend0
  have HI := Lib.hid Tryd.sizePk
  clear hrow hb0 hend0 he0
  by_cases hf : 0 ≤ wd ∧ wd ≤ 64
  rotate_left
  · have he : e0 = 14 := by rw [HE.out]; unfold opErr; rw [if_pos (.inl hf)]
    have hd : decide (0 ≤ wd ∧ wd ≤ 64) = false := decide_eq_false hf
    have HD := Lib.hid hd
    subst he
    clear hd
    go_enter Tryd.func36, Tryd.ntmps36
    go_wp2_with (go_at_call 51; refine (fits_calls _ _).mono ?_; rintro e w' ⟨rfl, rfl⟩; rw [HD.out])
    refine bodyPost_ret (results_ct rfl _ _ w.heap.size _ _ _ _ rfl HROW.out Tryd.underlying104 rfl HI.out) rfl ⟨?_, HB.out⟩
    rw [HEND.out (by omega), ← HE.out]
    rfl
  have HD := Lib.hid (decide_eq_true hf)
  by_cases hn0 : n < 0
  · have he : e0 = 14 := by rw [HE.out]; unfold opErr; rw [if_pos (.inr (.inl hn0))]
    subst he
    go_enter Tryd.func36, Tryd.ntmps36
    go_wp2_with (go_at_call 51; refine (fits_calls _ _).mono ?_; rintro e w' ⟨rfl, rfl⟩; rw [HD.out])
    refine bodyPost_ret (results_ct rfl _ _ w.heap.size _ _ _ _ rfl HROW.out Tryd.underlying104 rfl HI.out) rfl ⟨?_, HB.out⟩
    rw [HEND.out (by omega), ← HE.out]
    rfl
  by_cases hn1 : 2147483647 < n
  · have he : e0 = 14 := by rw [HE.out]; unfold opErr; rw [if_pos (.inr (.inr hn1))]
    subst he
    go_enter Tryd.func36, Tryd.ntmps36
    go_wp2_with (go_at_call 51; refine (fits_calls _ _).mono ?_; rintro e w' ⟨rfl, rfl⟩; rw [HD.out])
    refine bodyPost_ret (results_ct rfl _ _ w.heap.size _ _ _ _ rfl HROW.out Tryd.underlying104 rfl HI.out) rfl ⟨?_, HB.out⟩
    rw [HEND.out (by omega), ← HE.out]
    rfl
  obtain ⟨m, rfl⟩ := Int.eq_ofNat_of_zero_le (show 0 ≤ n by omega)
  obtain ⟨d, rfl⟩ := Int.eq_ofNat_of_zero_le hf.1
  have hno : ¬ (¬ (0 ≤ (d : Int) ∧ (d : Int) ≤ 64) ∨ (m : Int) < 0 ∨ 2147483647 < (m : Int)) := by omega
  have hd : d ≤ 64 := by omega
  have hm : m ≤ 2147483647 := by omega
  have hmd : m * d ≤ m * 64 := Nat.mul_le_mul_left m hd
  obtain ⟨M, hM⟩ : ∃ M, M = m * d := ⟨_, rfl⟩
  have hMi : (m : Int) * (d : Int) = (M : Int) := by rw [hM, Int.natCast_mul]
  obtain ⟨R, hR⟩ : ∃ R : Nat, R = (M + 7) / 8 := ⟨_, rfl⟩
  have hR' : ((M : Int) + 7) / 8 = (R : Int) := by omega
  obtain ⟨v, hv⟩ : ∃ v : Nat, v = M % 8 := ⟨_, rfl⟩
  have hv' : (M : Int) % 8 = (v : Int) := by omega
  have hvb : v < 8 := by omega
  have HM := Lib.hid hMi
  have HR' := Lib.hid hR'
  have hRb : R ≤ 17179869177 := by omega
  have hMb : M ≤ 137438953408 := by omega
  have HNO := Lib.hid hno
  have heq : opErr zs (m : Int) (d : Int) = (if L < R then 10 else if R < L then 13 else if 0 < v ∧ zs.getD (L - 1) 0 / 2 ^ v ≠ 0 then 12 else 0) := by
    unfold opErr
    rw [if_neg hno, hMi, hR', hv', hll, Int.toNat_natCast]
    by_cases h1 : L < R
    · rw [if_pos h1, if_pos (by omega)]
    · rw [if_neg h1, if_neg (by omega)]
      by_cases h2 : R < L
      · rw [if_pos h2, if_pos (by omega)]
      · rw [if_neg h2, if_neg (by omega)]
        by_cases h3 : 0 < v ∧ zs.getD (L - 1) 0 / 2 ^ v ≠ 0
        · rw [if_pos h3, if_pos ⟨by omega, h3.2⟩]
        · rw [if_neg h3, if_neg (fun h => h3 ⟨by omega, h.2⟩)]
  have HEQ := Lib.hid heq
  have HU := Lib.hid hu
  have HLL := Lib.hid hll
  have hs := h.keep HB.out
  clear hno heq hM hR hf hn0 hn1 h hv hll hu
  by_cases h1 : L < R
  · have he : e0 = 10 := by rw [HE.out, HEQ.out, if_pos h1]
    subst he
    go_enter Tryd.func36, Tryd.ntmps36
    go_wp2_with (first | (go_at_call 51; refine (fits_calls _ _).mono ?_; rintro e w' ⟨rfl, rfl⟩; rw [HD.out]) | (go_at_call 52; refine (room_calls _ _ _ (by rw [HM.out]; omega) (by rw [HM.out]; omega)).mono ?_; rintro e w' ⟨rfl, rfl⟩; rw [HM.out, HR'.out]))
    refine bodyPost_ret (results_ct rfl _ _ w.heap.size _ _ _ _ rfl HROW.out Tryd.underlying104 rfl HI.out) rfl ⟨?_, HB.out⟩
    rw [HEND.out (by omega), ← HE.out]
    rfl
  by_cases h2 : R < L
  · have he : e0 = 13 := by rw [HE.out, HEQ.out, if_neg h1, if_pos h2]
    subst he
    go_enter Tryd.func36, Tryd.ntmps36
    go_wp2_with (first | (go_at_call 51; refine (fits_calls _ _).mono ?_; rintro e w' ⟨rfl, rfl⟩; rw [HD.out]) | (go_at_call 52; refine (room_calls _ _ _ (by rw [HM.out]; omega) (by rw [HM.out]; omega)).mono ?_; rintro e w' ⟨rfl, rfl⟩; rw [HM.out, HR'.out]))
    refine bodyPost_ret (results_ct rfl _ _ w.heap.size _ _ _ _ rfl HROW.out Tryd.underlying104 rfl HI.out) rfl ⟨?_, HB.out⟩
    rw [HEND.out (by omega), ← HE.out]
    rfl
  obtain rfl : R = L := by omega
  by_cases h3 : v = 0
  · have he : e0 = 0 := by rw [HE.out, HEQ.out, if_neg h1, if_neg h2, if_neg (by omega)]
    have hv0 : (M : Int) % 8 = 0 := by omega
    clear hv'
    go_enter Tryd.func36, Tryd.ntmps36
    go_wp2_with (first | (go_at_call 51; refine (fits_calls _ _).mono ?_; rintro e w' ⟨rfl, rfl⟩; rw [HD.out]) | (go_at_call 52; refine (room_calls _ _ _ (by rw [HM.out]; omega) (by rw [HM.out]; omega)).mono ?_; rintro e w' ⟨rfl, rfl⟩; rw [HM.out, HR'.out]))
    refine bodyPost_ret (results_ct rfl _ _ w.heap.size _ _ _ _ rfl (heap_alloc_new w _) Tryd.underlying104 rfl HI.out) rfl ⟨?_, (Below.refl _ _).alloc (Nat.le_refl _) _⟩
    unfold opVal
    rw [← HE.out, he, if_pos rfl, HLL.out]
    rfl
  have hR1 : 1 ≤ R := by omega
  obtain ⟨b, o, rfl, hc⟩ := hs.cell (R - 1) (by omega)
  have hub := HU.out (R - 1) (by rw [HLL.out]; omega)
  obtain ⟨y, hy⟩ : ∃ y : Nat, zs.getD (R - 1) 0 = y := ⟨(zs.getD (R - 1) 0).toNat, by omega⟩
  rw [hy] at hc hub
  obtain ⟨z, hz⟩ : ∃ z : Nat, z = y / 2 ^ v := ⟨_, rfl⟩
  have hz' : (y : Int) / 2 ^ v = (z : Int) := by rw [hz, Int.natCast_ediv, Int.natCast_pow]; rfl
  have HY := Lib.hid hy
  have hi1 : (R : Int) - 1 = ((R - 1 : Nat) : Int) := by omega
  have HZ := Lib.hid hz
  have HZ' := Lib.hid hz'
  have hv1 : 0 < v := by omega
  clear hy hz
  by_cases h4 : z = 0
  · have he : e0 = 0 := by
      rw [HE.out, HEQ.out, if_neg h1, if_neg h2, if_neg]
      intro hh
      rw [HY.out, HZ'.out] at hh
      omega
    go_enter Tryd.func36, Tryd.ntmps36
    go_wp2_with (first | (go_at_call 51; refine (fits_calls _ _).mono ?_; rintro e w' ⟨rfl, rfl⟩; rw [HD.out]) | (go_at_call 52; refine (room_calls _ _ _ (by rw [HM.out]; omega) (by rw [HM.out]; omega)).mono ?_; rintro e w' ⟨rfl, rfl⟩; rw [HM.out, HR'.out]))
    refine bodyPost_ret (results_ct rfl _ _ w.heap.size _ _ _ _ rfl (heap_alloc_new w _) Tryd.underlying104 rfl HI.out) rfl ⟨?_, (Below.refl _ _).alloc (Nat.le_refl _) _⟩
    unfold opVal
    rw [← HE.out, he, if_pos rfl, HLL.out]
    rfl
  · have he : e0 = 12 := by
      rw [HE.out, HEQ.out, if_neg h1, if_neg h2, if_pos]
      refine ⟨hv1, ?_⟩
      rw [HY.out, HZ'.out]
      omega
    subst he
    go_enter Tryd.func36, Tryd.ntmps36
    go_wp2_with (first | (go_at_call 51; refine (fits_calls _ _).mono ?_; rintro e w' ⟨rfl, rfl⟩; rw [HD.out]) | (go_at_call 52; refine (room_calls _ _ _ (by rw [HM.out]; omega) (by rw [HM.out]; omega)).mono ?_; rintro e w' ⟨rfl, rfl⟩; rw [HM.out, HR'.out]))
    refine bodyPost_ret (results_ct rfl _ _ w.heap.size _ _ _ _ rfl HROW.out Tryd.underlying104 rfl HI.out) rfl ⟨?_, HB.out⟩
    rw [HEND.out (by omega), ← HE.out]
    rfl
end Go.Proofs.YtgajpekolamjbaaDoor
