/- PkO PkQ PkL, laid as one. -/
import Derived.Test.YtgajpekolamjbaaPkP
import Derived.Test.YtgajpekolamjbaaBitsPackD
import Derived.Laws.EntriesVeiled
import Derived.Laws.Tables
set_option linter.unusedVariables false
set_option linter.unusedSimpArgs false
/- Open, Len, Get of packed numbers. -/
namespace Go.Tk
open Go Go.RowKit
theorem or_u64 (x y : Nat) (hx : x < 18446744073709551616) (hy : y < 18446744073709551616) : bits .or .u64 (x : Int) (y : Int) = ((x ||| y : Nat) : Int) := by
  have key : (BitVec.ofInt 64 (x : Int) ||| BitVec.ofInt 64 (y : Int)).toNat = x ||| y := by
    rw [BitVec.toNat_or, BitVec.toNat_ofInt, BitVec.toNat_ofInt]
    have e1 : ((x : Int) % ((2 ^ 64 : Nat) : Int)).toNat = x := by omega
    have e2 : ((y : Int) % ((2 ^ 64 : Nat) : Int)).toNat = y := by omega
    rw [e1, e2]
  show IntKind.u64.wrap ((BitVec.ofInt 64 (x : Int) ||| BitVec.ofInt 64 (y : Int)).toNat : Nat) = _
  rw [key, IntKind.wrap_u64]
  have : x ||| y < 2 ^ 64 := Nat.or_lt_two_pow hx hy
  omega
theorem bit_val : ∀ y : Fin 256, ∀ j : Fin 8, bits .and .u8 ((y.val : Int) / 2 ^ j.val) 1 = if y.val.testBit j.val = true then 1 else 0 := by decide +kernel
theorem step_val (N y r k : Nat) (hN : N < 18446744073709551616) (hy : y < 256) (hr : r < 8) (hk : k < 64) : bits .or .u64 (N : Int) (IntKind.u64.wrap (IntKind.u64.wrap (bits .and .u8 ((y : Int) / 2 ^ r) 1) * 2 ^ k)) = ((N ||| (if y.testBit r = true then 2 ^ k else 0) : Nat) : Int) := by
  have hb := bit_val ⟨y, hy⟩ ⟨r, hr⟩
  simp only at hb
  rw [hb]
  have h2 : (2 : Nat) ^ k < 18446744073709551616 := by
    have : (2 : Nat) ^ k < 2 ^ 64 := Nat.pow_lt_pow_right (by omega) hk
    omega
  by_cases h : y.testBit r = true
  · rw [if_pos h, if_pos h]
    have e1 : IntKind.u64.wrap 1 = 1 := rfl
    have e2 : (2 : Int) ^ k = ((2 ^ k : Nat) : Int) := by rw [Int.natCast_pow]; rfl
    rw [e1, Int.one_mul, e2, IntKind.wrap_u64]
    generalize 2 ^ k = m at h2 ⊢
    rw [show (m : Int) % 18446744073709551616 = (m : Int) by omega]
    exact or_u64 N m hN h2
  · rw [if_neg h, if_neg h]
    have e1 : IntKind.u64.wrap 0 = 0 := rfl
    rw [e1, Int.zero_mul, e1]
    exact or_u64 N 0 hN (by omega)
/-- What Open says of so many numbers in bytes. -/
def opErr (zs : List Int) (n wd : Int) : Int :=
  if ¬ (0 ≤ wd ∧ wd ≤ 64) ∨ n < 0 ∨ 2147483647 < n then 14 else if (zs.length : Int) < (n * wd + 7) / 8 then 10 else if (n * wd + 7) / 8 < (zs.length : Int) then 13
  else if 0 < (n * wd) % 8 ∧ zs.getD (zs.length - 1) 0 / 2 ^ ((n * wd) % 8).toNat ≠ 0 then 12 else 0
def opVal (zs : List Int) (a : Option Addr) (c : Nat) (n wd : Int) : Value := if opErr zs n wd = 0 then .agg #[.slice a zs.length c, .int .i64 n, .int .i64 wd] else .agg #[.slice none 0 0, .int .i64 0, .int .i64 0]
theorem stor3 {w : World} {g : Nat} {x y z u v t : Value} {e : TypeId} (h : w.heap[g]? = some (.cells #[x, y, z] e (0, 0))) : (((w.setCell ⟨g, 0, none⟩ u).setCell ⟨g, 1, none⟩ v).setCell ⟨g, 2, none⟩ t).heap[g]? = some (.cells #[u, v, t] e (0, 0)) :=
  heap_setCell_same _ _ 2 _ _ _ (heap_setCell_same _ _ 1 _ _ _ (heap_setCell_same _ _ 0 _ _ _ h))
theorem results_ct {P : Program} {fn : Func} {p q : Tmp} {ty : TypeId} (h : fn.results = #[.cell p ty, .tmp q]) (tmps : Array Value) (w : World) (g : Nat) (t : TypeId) (cs : Array Value) (fr : Nat × Nat) (d : TypeDesc)
    (hp : tmps.getD p undef = .pointer (some ⟨g, 0, none⟩)) (hg : w.heap[g]? = some (.cells cs t fr))
    (hu : P.underlying ty = some d) (hd : (match d with | .struct _ | .array _ _ => true | _ => false) = true) (hi : (P.info? ty).map (·.size) = some cs.size) :
    (results fn tmps).run P w = .ok (.tuple #[.agg cs, tmps.getD q undef]) w := by
  have hp' : tmps[p]?.getD undef = .pointer (some ⟨g, 0, none⟩) := by simpa using hp
  simp [results, h, hp', asAddr, run_loadVar_row w g t ty cs fr d hg hu hd hi]
end Go.Tk
namespace Go.Proofs.Ytgajpekolamjbaa
open Go.RowKit Go.Tk
theorem Try.sizePk : (Try.prog.info? 146).map (·.size) = some 3 := by kernel_rfl
set_option maxRecDepth 100000 in
set_option maxHeartbeats 2000000 in
theorem popen_calls (w : World) (a : Option Addr) (L c : Nat) (zs : List Int) (h : SlI .u8 w a L c zs) (hu : U8 zs) (n wd : Int) :
    Calls Try.prog 92 #[.slice a L c, .int .i64 n, .int .i64 wd] w fun e w' => e = .returned (.tuple #[opVal zs a c n wd, .int .i64 (opErr zs n wd)]) ∧ Below w.heap.size w w' := by
  have hll := h.len
  have hlc := h.le
  have hmx := h.max
  have hrow : (w.alloc (.cells #[.slice none 0 0, .int .i64 0, .int .i64 0] 146)).heap[w.heap.size]? = some (.cells #[.slice none 0 0, .int .i64 0, .int .i64 0] 146 (0, 0)) := heap_alloc_new w _
  have hb0 : Below w.heap.size w (w.alloc (.cells #[.slice none 0 0, .int .i64 0, .int .i64 0] 146)) := (Below.refl _ _).alloc (Nat.le_refl _) _
  obtain ⟨e0, he0⟩ : ∃ e0, e0 = opErr zs n wd := ⟨_, rfl⟩
  have hend0 : e0 ≠ 0 → opVal zs a c n wd = .agg #[.slice none 0 0, .int .i64 0, .int .i64 0] := fun hne => by unfold opVal; rw [if_neg (by rw [← he0]; exact hne)]
  have HE := Lib.hid he0
  have HROW := Lib.hid hrow
  have HB := Lib.hid hb0
  have HEND := Lib.hid hend0
  have HI := Lib.hid Try.sizePk
  clear hrow hb0 hend0 he0
  by_cases hf : 0 ≤ wd ∧ wd ≤ 64
  rotate_left
  · have he : e0 = 14 := by rw [HE.out]; unfold opErr; rw [if_pos (.inl hf)]
    have hd : decide (0 ≤ wd ∧ wd ≤ 64) = false := decide_eq_false hf
    have HD := Lib.hid hd
    subst he
    clear hd
    go_enter Try.func92, Try.ntmps92
    go_wp2_with (go_at_call 75; refine (fits_calls _ _).mono ?_; rintro e w' ⟨rfl, rfl⟩; rw [HD.out])
    refine bodyPost_ret (results_ct rfl _ _ w.heap.size _ _ _ _ rfl HROW.out Try.underlying146 rfl HI.out) rfl ⟨?_, HB.out⟩
    rw [HEND.out (by omega), ← HE.out]
    rfl
  have HD := Lib.hid (decide_eq_true hf)
  by_cases hn0 : n < 0
  · have he : e0 = 14 := by rw [HE.out]; unfold opErr; rw [if_pos (.inr (.inl hn0))]
    subst he
    go_enter Try.func92, Try.ntmps92
    go_wp2_with (go_at_call 75; refine (fits_calls _ _).mono ?_; rintro e w' ⟨rfl, rfl⟩; rw [HD.out])
    refine bodyPost_ret (results_ct rfl _ _ w.heap.size _ _ _ _ rfl HROW.out Try.underlying146 rfl HI.out) rfl ⟨?_, HB.out⟩
    rw [HEND.out (by omega), ← HE.out]
    rfl
  by_cases hn1 : 2147483647 < n
  · have he : e0 = 14 := by rw [HE.out]; unfold opErr; rw [if_pos (.inr (.inr hn1))]
    subst he
    go_enter Try.func92, Try.ntmps92
    go_wp2_with (go_at_call 75; refine (fits_calls _ _).mono ?_; rintro e w' ⟨rfl, rfl⟩; rw [HD.out])
    refine bodyPost_ret (results_ct rfl _ _ w.heap.size _ _ _ _ rfl HROW.out Try.underlying146 rfl HI.out) rfl ⟨?_, HB.out⟩
    rw [HEND.out (by omega), ← HE.out]
    rfl
  obtain ⟨m, rfl⟩ := Int.eq_ofNat_of_zero_le (show 0 ≤ n by omega)
  obtain ⟨d, rfl⟩ := Int.eq_ofNat_of_zero_le hf.1
  have hno : ¬ (¬ (0 ≤ (d : Int) ∧ (d : Int) ≤ 64) ∨ (m : Int) < 0 ∨ 2147483647 < (m : Int)) := by omega
  have hd : d ≤ 64 := by omega
  have hm : m ≤ 2147483647 := by omega
  have hmd : m * d ≤ m * 64 := Nat.mul_le_mul_left m hd
  obtain ⟨M, hM⟩ : ∃ M, M = m * d := ⟨_, rfl⟩
  have hMi : (m : Int) * (d : Int) = (M : Int) := by rw [hM, Int.natCast_mul]
  obtain ⟨R, hR⟩ : ∃ R : Nat, R = (M + 7) / 8 := ⟨_, rfl⟩
  have hR' : ((M : Int) + 7) / 8 = (R : Int) := by omega
  obtain ⟨v, hv⟩ : ∃ v : Nat, v = M % 8 := ⟨_, rfl⟩
  have hv' : (M : Int) % 8 = (v : Int) := by omega
  have hvb : v < 8 := by omega
  have HM := Lib.hid hMi
  have HR' := Lib.hid hR'
  have hRb : R ≤ 17179869177 := by omega
  have hMb : M ≤ 137438953408 := by omega
  have HNO := Lib.hid hno
  have heq : opErr zs (m : Int) (d : Int) = (if L < R then 10 else if R < L then 13 else if 0 < v ∧ zs.getD (L - 1) 0 / 2 ^ v ≠ 0 then 12 else 0) := by
    unfold opErr
    rw [if_neg hno, hMi, hR', hv', hll, Int.toNat_natCast]
    by_cases h1 : L < R
    · rw [if_pos h1, if_pos (by omega)]
    · rw [if_neg h1, if_neg (by omega)]
      by_cases h2 : R < L
      · rw [if_pos h2, if_pos (by omega)]
      · rw [if_neg h2, if_neg (by omega)]
        by_cases h3 : 0 < v ∧ zs.getD (L - 1) 0 / 2 ^ v ≠ 0
        · rw [if_pos h3, if_pos ⟨by omega, h3.2⟩]
        · rw [if_neg h3, if_neg (fun h => h3 ⟨by omega, h.2⟩)]
  have HEQ := Lib.hid heq
  have HU := Lib.hid hu
  have HLL := Lib.hid hll
  have hs := h.keep HB.out
  clear hno heq hM hR hf hn0 hn1 h hv hll hu
  by_cases h1 : L < R
  · have he : e0 = 10 := by rw [HE.out, HEQ.out, if_pos h1]
    subst he
    go_enter Try.func92, Try.ntmps92
    go_wp2_with (first | (go_at_call 75; refine (fits_calls _ _).mono ?_; rintro e w' ⟨rfl, rfl⟩; rw [HD.out]) | (go_at_call 78; refine (room_calls _ _ _ (by rw [HM.out]; omega) (by rw [HM.out]; omega)).mono ?_; rintro e w' ⟨rfl, rfl⟩; rw [HM.out, HR'.out]))
    refine bodyPost_ret (results_ct rfl _ _ w.heap.size _ _ _ _ rfl HROW.out Try.underlying146 rfl HI.out) rfl ⟨?_, HB.out⟩
    rw [HEND.out (by omega), ← HE.out]
    rfl
  by_cases h2 : R < L
  · have he : e0 = 13 := by rw [HE.out, HEQ.out, if_neg h1, if_pos h2]
    subst he
    go_enter Try.func92, Try.ntmps92
    go_wp2_with (first | (go_at_call 75; refine (fits_calls _ _).mono ?_; rintro e w' ⟨rfl, rfl⟩; rw [HD.out]) | (go_at_call 78; refine (room_calls _ _ _ (by rw [HM.out]; omega) (by rw [HM.out]; omega)).mono ?_; rintro e w' ⟨rfl, rfl⟩; rw [HM.out, HR'.out]))
    refine bodyPost_ret (results_ct rfl _ _ w.heap.size _ _ _ _ rfl HROW.out Try.underlying146 rfl HI.out) rfl ⟨?_, HB.out⟩
    rw [HEND.out (by omega), ← HE.out]
    rfl
  obtain rfl : R = L := by omega
  by_cases h3 : v = 0
  · have he : e0 = 0 := by rw [HE.out, HEQ.out, if_neg h1, if_neg h2, if_neg (by omega)]
    have hv0 : (M : Int) % 8 = 0 := by omega
    clear hv'
    go_enter Try.func92, Try.ntmps92
    go_wp2_with (first | (go_at_call 75; refine (fits_calls _ _).mono ?_; rintro e w' ⟨rfl, rfl⟩; rw [HD.out]) | (go_at_call 78; refine (room_calls _ _ _ (by rw [HM.out]; omega) (by rw [HM.out]; omega)).mono ?_; rintro e w' ⟨rfl, rfl⟩; rw [HM.out, HR'.out]))
    refine bodyPost_ret (results_ct rfl _ _ w.heap.size _ _ _ _ rfl (heap_alloc_new w _) Try.underlying146 rfl HI.out) rfl ⟨?_, (Below.refl _ _).alloc (Nat.le_refl _) _⟩
    unfold opVal
    rw [← HE.out, he, if_pos rfl, HLL.out]
    rfl
  have hR1 : 1 ≤ R := by omega
  obtain ⟨b, o, rfl, hc⟩ := hs.cell (R - 1) (by omega)
  have hub := HU.out (R - 1) (by rw [HLL.out]; omega)
  obtain ⟨y, hy⟩ : ∃ y : Nat, zs.getD (R - 1) 0 = y := ⟨(zs.getD (R - 1) 0).toNat, by omega⟩
  rw [hy] at hc hub
  obtain ⟨z, hz⟩ : ∃ z : Nat, z = y / 2 ^ v := ⟨_, rfl⟩
  have hz' : (y : Int) / 2 ^ v = (z : Int) := by rw [hz, Int.natCast_ediv, Int.natCast_pow]; rfl
  have HY := Lib.hid hy
  have hi1 : (R : Int) - 1 = ((R - 1 : Nat) : Int) := by omega
  have HZ := Lib.hid hz
  have HZ' := Lib.hid hz'
  have hv1 : 0 < v := by omega
  clear hy hz
  by_cases h4 : z = 0
  · have he : e0 = 0 := by
      rw [HE.out, HEQ.out, if_neg h1, if_neg h2, if_neg]
      intro hh
      rw [HY.out, HZ'.out] at hh
      omega
    go_enter Try.func92, Try.ntmps92
    go_wp2_with (first | (go_at_call 75; refine (fits_calls _ _).mono ?_; rintro e w' ⟨rfl, rfl⟩; rw [HD.out]) | (go_at_call 78; refine (room_calls _ _ _ (by rw [HM.out]; omega) (by rw [HM.out]; omega)).mono ?_; rintro e w' ⟨rfl, rfl⟩; rw [HM.out, HR'.out]))
    refine bodyPost_ret (results_ct rfl _ _ w.heap.size _ _ _ _ rfl (heap_alloc_new w _) Try.underlying146 rfl HI.out) rfl ⟨?_, (Below.refl _ _).alloc (Nat.le_refl _) _⟩
    unfold opVal
    rw [← HE.out, he, if_pos rfl, HLL.out]
    rfl
  · have he : e0 = 12 := by
      rw [HE.out, HEQ.out, if_neg h1, if_neg h2, if_pos]
      refine ⟨hv1, ?_⟩
      rw [HY.out, HZ'.out]
      omega
    subst he
    go_enter Try.func92, Try.ntmps92
    go_wp2_with (first | (go_at_call 75; refine (fits_calls _ _).mono ?_; rintro e w' ⟨rfl, rfl⟩; rw [HD.out]) | (go_at_call 78; refine (room_calls _ _ _ (by rw [HM.out]; omega) (by rw [HM.out]; omega)).mono ?_; rintro e w' ⟨rfl, rfl⟩; rw [HM.out, HR'.out]))
    refine bodyPost_ret (results_ct rfl _ _ w.heap.size _ _ _ _ rfl HROW.out Try.underlying146 rfl HI.out) rfl ⟨?_, HB.out⟩
    rw [HEND.out (by omega), ← HE.out]
    rfl
end Go.Proofs.Ytgajpekolamjbaa
/- Packed numbers there and back. Plain. -/
namespace Go.Tk
open Go Go.RowKit
theorem byte_hi : ∀ y : Fin 256, ∀ v : Fin 8, (∀ j : Fin 8, v.val ≤ j.val → y.val.testBit j.val = false) → y.val / 2 ^ v.val = 0 := by decide +kernel
theorem byte_hi' : ∀ y : Fin 256, ∀ v : Fin 8, y.val / 2 ^ v.val = 0 → ∀ j : Fin 8, v.val ≤ j.val → y.val.testBit j.val = false := by decide +kernel
theorem byte_all : ∀ x y : Fin 256, (∀ j : Fin 8, x.val.testBit j.val = y.val.testBit j.val) → x.val = y.val := by
  intro x y h
  apply Nat.eq_of_testBit_eq
  intro j
  by_cases hj : j < 8
  · exact h ⟨j, hj⟩
  · rw [Nat.testBit_lt_two_pow (show x.val < 2 ^ j from Nat.lt_of_lt_of_le x.isLt (show 2 ^ 8 ≤ 2 ^ j from Nat.pow_le_pow_right (by omega) (by omega))), Nat.testBit_lt_two_pow (show y.val < 2 ^ j from Nat.lt_of_lt_of_le y.isLt (show 2 ^ 8 ≤ 2 ^ j from Nat.pow_le_pow_right (by omega) (by omega)))]
/-- Bytes with the same bits are one. -/
theorem bits_eq {x y : List Int} (hx : U8 x) (hy : U8 y) (hl : x.length = y.length) (h : ∀ q, q < 8 * x.length → bitI x q = bitI y q) : x = y := by
  apply List.ext_getElem hl
  intro i h1 h2
  have e1 : x.getD i 0 = x[i] := by rw [List.getD_eq_getElem?_getD, List.getElem?_eq_getElem h1]; rfl
  have e2 : y.getD i 0 = y[i] := by rw [List.getD_eq_getElem?_getD, List.getElem?_eq_getElem h2]; rfl
  have a := hx i h1
  have b := hy i h2
  rw [e1] at a
  rw [e2] at b
  have := byte_all ⟨x[i].toNat, by omega⟩ ⟨y[i].toNat, by omega⟩ (fun j => by
    have hj := j.isLt
    have := h (8 * i + j.val) (by omega)
    unfold bitI at this
    rw [show (8 * i + j.val) / 8 = i by omega, show (8 * i + j.val) % 8 = j.val by omega, e1, e2] at this
    exact this)
  simp only at this
  omega
theorem bitI_out {bs : List Int} {q : Nat} (h : bs.length ≤ q / 8) : bitI bs q = false := by
  unfold bitI
  rw [List.getD_eq_getElem?_getD, List.getElem?_eq_none h]
  simp
/-- No bit behind the last number: what Open asks. -/
theorem pad_iff {bs : List Int} (hu : U8 bs) {m : Nat} (hl : bs.length = (m + 7) / 8) : (¬ (0 < m % 8 ∧ bs.getD (bs.length - 1) 0 / 2 ^ (m % 8) ≠ 0)) ↔ ∀ q, m ≤ q → bitI bs q = false := by
  by_cases h8 : m % 8 = 0
  · refine ⟨fun _ q hq => bitI_out (by omega), fun _ h => by omega⟩
  · have a := hu (bs.length - 1) (by omega)
    obtain ⟨y, hy⟩ : ∃ y : Nat, bs.getD (bs.length - 1) 0 = y := ⟨(bs.getD (bs.length - 1) 0).toNat, by omega⟩
    have hyb : y < 256 := by omega
    have he : bs.getD (bs.length - 1) 0 / 2 ^ (m % 8) = ((y / 2 ^ (m % 8) : Nat) : Int) := by rw [hy, Int.natCast_ediv, Int.natCast_pow]; rfl
    rw [he]
    constructor
    · intro h q hq
      by_cases ho : bs.length ≤ q / 8
      · exact bitI_out ho
      · have hq8 : q / 8 = bs.length - 1 := by omega
        have hz : y / 2 ^ (m % 8) = 0 := by
          by_cases hz : y / 2 ^ (m % 8) = 0
          · exact hz
          · exact absurd ⟨by omega, by omega⟩ h
        have := byte_hi' ⟨y, hyb⟩ ⟨m % 8, by omega⟩ hz ⟨q % 8, by omega⟩ (by simp only; omega)
        unfold bitI
        rw [hq8, hy, Int.toNat_natCast]
        exact this
    · intro h ⟨_, h2⟩
      apply h2
      have := byte_hi ⟨y, hyb⟩ ⟨m % 8, by omega⟩ (fun j hj => by
        have hj8 := j.isLt
        have := h (8 * (bs.length - 1) + j.val) (by simp only at hj; omega)
        unfold bitI at this
        rw [show (8 * (bs.length - 1) + j.val) / 8 = bs.length - 1 by omega, show (8 * (bs.length - 1) + j.val) % 8 = j.val by omega, hy, Int.toNat_natCast] at this
        exact this)
      simp only at this
      rw [this]; rfl
theorem bw_le_of {x : Nat} {d : Nat} (hx : x < 2 ^ d) : bw (x : Int) ≤ d := by
  have key : ∀ (f x d : Nat), x < 2 ^ d → Lib.bitLenAux f x ≤ d := by
    intro f
    induction f with
    | zero => intro x d _; simp [Lib.bitLenAux]
    | succ f ih =>
      intro x d h
      simp only [Lib.bitLenAux]
      split
      · omega
      · cases d with
        | zero => simp at h; omega
        | succ d =>
          have := ih (x / 2) d (by rw [Nat.pow_succ] at h; omega)
          omega
  unfold bw Lib.bitLen
  rw [Int.toNat_natCast]
  have := key 64 x d hx
  omega
theorem lt_of_bw {x : Int} (h0 : 0 ≤ x) (h1 : x < 18446744073709551616) {d : Nat} (hd : bw x ≤ d) : x.toNat < 2 ^ d := by
  have h2 := lt_bitLenAux 64 x.toNat (by omega)
  have h3 : Lib.bitLenAux 64 x.toNat ≤ d := by unfold bw Lib.bitLen at hd; omega
  exact Nat.lt_of_lt_of_le h2 (Nat.pow_le_pow_right (by omega) h3)
/-- What Pack made gives the numbers back. -/
theorem num_pack {zs : List Int} (hz : ∀ i, i < zs.length → 0 ≤ zs.getD i 0 ∧ zs.getD i 0 < 18446744073709551616) {d R : Nat} (hR : zs.length * d ≤ 8 * R) (hf : ∀ i, i < zs.length → bw (zs.getD i 0) ≤ d) (i : Nat) (hi : i < zs.length) : numT (packTo zs d R zs.length) d i d = (zs.getD i 0).toNat := by
  obtain ⟨z0, z1⟩ := hz i hi
  have hlt := lt_of_bw z0 z1 (hf i hi)
  apply Nat.eq_of_testBit_eq
  intro j
  rw [numT_bit]
  by_cases hj : j < d
  · have hid : i * d + j < zs.length * d := by
      have : (i + 1) * d ≤ zs.length * d := Nat.mul_le_mul_right d (by omega)
      rw [Nat.add_mul, Nat.one_mul] at this
      omega
    rw [decide_eq_true hj, pack_bit hz d R zs.length (Nat.le_refl _) hR, decide_eq_true hid]
    have h1 : (i * d + j) / d = i := by rw [Nat.mul_comm, Nat.mul_add_div (by omega), Nat.div_eq_of_lt hj]; omega
    have h2 : (i * d + j) % d = j := by rw [Nat.mul_comm, Nat.mul_add_mod, Nat.mod_eq_of_lt hj]
    rw [h1, h2]; simp
  · rw [decide_eq_false hj, Bool.false_and]
    exact (Nat.testBit_lt_two_pow (Nat.lt_of_lt_of_le hlt (Nat.pow_le_pow_right (by omega) (by omega)))).symm
/-- The numbers that a view gives, packed again. -/
theorem pack_num {bs : List Int} (hu : U8 bs) {n d : Nat} (hd : 0 < d) (hd2 : d ≤ 64) (hl : bs.length = (n * d + 7) / 8) (hp : ∀ q, n * d ≤ q → bitI bs q = false) (zs : List Int) (hzl : zs.length = n) (hz : ∀ i, i < n → zs.getD i 0 = (numT bs d i d : Nat)) : packTo zs d bs.length n = bs := by
  have hz64 : ∀ i, i < zs.length → 0 ≤ zs.getD i 0 ∧ zs.getD i 0 < 18446744073709551616 := fun i hi => by
    rw [hz i (by omega)]
    have h1 := numT_lt bs d i d
    have h2 : 2 ^ d ≤ 2 ^ 64 := Nat.pow_le_pow_right (by omega) hd2
    omega
  apply bits_eq (packTo_u8 zs d bs.length n) hu (packTo_len _ _ _ _)
  intro q hq
  rw [packTo_len] at hq
  have hb := pack_bit hz64 d bs.length n (by omega) (by omega) q
  rw [hb]
  by_cases hqn : q < n * d
  · have hqd : q / d < n := Nat.div_lt_of_lt_mul (by rw [Nat.mul_comm]; exact hqn)
    have hmd := Nat.mod_lt q hd
    rw [decide_eq_true hqn, Bool.true_and, hz _ hqd, Int.toNat_natCast, numT_bit, decide_eq_true hmd, Bool.true_and]
    congr 1
    rw [Nat.mul_comm]
    exact Nat.div_add_mod q d
  · rw [decide_eq_false hqn, Bool.false_and, hp q (by omega)]
end Go.Tk
/- Packed numbers: a bit changed. Plain. -/
namespace Go.Tk
open Go Go.RowKit
theorem xor_u8 (x y : Nat) (hx : x < 256) (hy : y < 256) : bits .xor .u8 (x : Int) (y : Int) = ((x ^^^ y : Nat) : Int) := by
  have key : (BitVec.ofInt 8 (x : Int) ^^^ BitVec.ofInt 8 (y : Int)).toNat = x ^^^ y := by
    rw [BitVec.toNat_xor, BitVec.toNat_ofInt, BitVec.toNat_ofInt]
    have e1 : ((x : Int) % ((2 ^ 8 : Nat) : Int)).toNat = x := by omega
    have e2 : ((y : Int) % ((2 ^ 8 : Nat) : Int)).toNat = y := by omega
    rw [e1, e2]
  show IntKind.u8.wrap ((BitVec.ofInt 8 (x : Int) ^^^ BitVec.ofInt 8 (y : Int)).toNat : Nat) = _
  rw [key, IntKind.wrap_u8]
  have : x ^^^ y < 2 ^ 8 := Nat.xor_lt_two_pow hx hy
  omega
/-- One bit changed. -/
def flipB (bs : List Int) (k : Nat) : List Int := bs.set (k / 8) (((bs.getD (k / 8) 0).toNat ^^^ 2 ^ (k % 8) : Nat) : Int)
theorem flipB_len (bs : List Int) (k : Nat) : (flipB bs k).length = bs.length := by simp [flipB]
theorem flip_val {bs : List Int} (hu : U8 bs) (k : Nat) (hk : k / 8 < bs.length) : (bs.getD (k / 8) 0).toNat ^^^ 2 ^ (k % 8) < 256 := by
  obtain ⟨u1, u2⟩ := hu (k / 8) hk
  have h1 : (2 : Nat) ^ (k % 8) < 2 ^ 8 := Nat.pow_lt_pow_right (by omega) (by omega)
  exact Nat.xor_lt_two_pow (n := 8) (by omega) h1
theorem flipB_u8 {bs : List Int} (hu : U8 bs) (k : Nat) (hk : k / 8 < bs.length) : U8 (flipB bs k) := by
  intro i hi
  rw [flipB_len] at hi
  unfold flipB
  by_cases h : i = k / 8
  · subst h
    rw [getD_set_self hi]
    have := flip_val hu k hk
    omega
  · rw [getD_set_other (fun e => h e.symm)]
    exact hu i hi
theorem flipB_bit {bs : List Int} (k : Nat) (hk : k / 8 < bs.length) (q : Nat) : bitI (flipB bs k) q = (bitI bs q ^^ decide (q = k)) := by
  unfold bitI flipB
  by_cases hb : q / 8 = k / 8
  · rw [hb, getD_set_self hk, Int.toNat_natCast, Nat.testBit_xor, Nat.testBit_two_pow]
    congr 1
    by_cases h : q = k
    · subst h; simp
    · rw [decide_eq_false h]; simp; omega
  · rw [getD_set_other (fun h => hb h.symm)]
    have : ¬ q = k := fun h => hb (by rw [h])
    rw [decide_eq_false this]; simp
theorem opErr_zero {bs : List Int} {n d : Nat} (h : opErr bs (n : Nat) (d : Nat) = 0) : d ≤ 64 ∧ n ≤ 2147483647 ∧ bs.length = (n * d + 7) / 8 ∧ ¬ (0 < n * d % 8 ∧ bs.getD (bs.length - 1) 0 / 2 ^ (n * d % 8) ≠ 0) := by
  unfold opErr at h
  have hm : (n : Int) * (d : Int) = ((n * d : Nat) : Int) := by rw [Int.natCast_mul]
  rw [hm] at h
  have e8 : (((n * d : Nat) : Int) % 8).toNat = n * d % 8 := by omega
  rw [e8] at h
  generalize n * d = M at *
  split at h
  · omega
  · split at h
    · omega
    · split at h
      · omega
      · split at h
        · omega
        · rename_i h1 h2 h3 h4
          refine ⟨by omega, by omega, by omega, fun hh => h4 ⟨by omega, hh.2⟩⟩
theorem opErr_ok {bs : List Int} {n d : Nat} (hd : d ≤ 64) (hn : n ≤ 2147483647) (hl : bs.length = (n * d + 7) / 8) (hp : ¬ (0 < n * d % 8 ∧ bs.getD (bs.length - 1) 0 / 2 ^ (n * d % 8) ≠ 0)) : opErr bs (n : Nat) (d : Nat) = 0 := by
  unfold opErr
  have hm : (n : Int) * (d : Int) = ((n * d : Nat) : Int) := by rw [Int.natCast_mul]
  rw [hm]
  have e8 : (((n * d : Nat) : Int) % 8).toNat = n * d % 8 := by omega
  rw [e8]
  generalize n * d = M at *
  rw [if_neg (by omega), if_neg (by omega), if_neg (by omega), if_neg (fun hh => hp ⟨by omega, hh.2⟩)]
theorem opErr_two {bs : List Int} {n d : Nat} (hd : d ≤ 64) (hn : n ≤ 2147483647) (hl : bs.length = (n * d + 7) / 8) : opErr bs (n : Nat) (d : Nat) = 0 ∨ opErr bs (n : Nat) (d : Nat) = 12 := by
  unfold opErr
  have hm : (n : Int) * (d : Int) = ((n * d : Nat) : Int) := by rw [Int.natCast_mul]
  rw [hm]
  generalize n * d = M at *
  rw [if_neg (by omega), if_neg (by omega), if_neg (by omega)]
  split
  · exact .inr rfl
  · exact .inl rfl
/-- What Pack makes is opened. -/
theorem open_pack {zs : List Int} (hz : ∀ i, i < zs.length → 0 ≤ zs.getD i 0 ∧ zs.getD i 0 < 18446744073709551616) {d : Nat} (hd : d ≤ 64) (hn : zs.length ≤ 2147483647) : opErr (packTo zs d ((zs.length * d + 7) / 8) zs.length) (zs.length : Nat) (d : Nat) = 0 := by
  refine opErr_ok hd hn (packTo_len _ _ _ _) ((pad_iff (packTo_u8 _ _ _ _) (packTo_len _ _ _ _)).2 fun q hq => ?_)
  rw [pack_bit hz d _ zs.length (Nat.le_refl _) (by omega), decide_eq_false (by omega)]
  simp
/-- A bit changed: other numbers, or none. -/
theorem flip_law {zs : List Int} (hz : ∀ i, i < zs.length → 0 ≤ zs.getD i 0 ∧ zs.getD i 0 < 18446744073709551616) {d R : Nat} (hR : R = (zs.length * d + 7) / 8) (hf : ∀ i, i < zs.length → bw (zs.getD i 0) ≤ d) (k : Nat) (hk : k / 8 < R)
    (h0 : opErr (flipB (packTo zs d R zs.length) k) (zs.length : Nat) (d : Nat) = 0) : ∃ i, i < zs.length ∧ (numT (flipB (packTo zs d R zs.length) k) d i d : Int) ≠ zs.getD i 0 := by
  have hu := packTo_u8 zs d R zs.length
  have hl := packTo_len zs d R zs.length
  have hkl : k / 8 < (packTo zs d R zs.length).length := by rw [hl]; exact hk
  have hfu := flipB_u8 hu k hkl
  obtain ⟨hd, _, hl2, hp⟩ := opErr_zero h0
  have hp2 := (pad_iff hfu hl2).1 hp
  have hb := flipB_bit k hkl
  have hkn : k < zs.length * d := by
    by_cases h : k < zs.length * d
    · exact h
    · have h1 := hp2 k (by omega)
      rw [hb, pack_bit hz d R zs.length (Nat.le_refl _) (by omega), decide_eq_false h] at h1
      simp at h1
  have hd0 : 0 < d := by
    rcases Nat.eq_zero_or_pos d with h | h
    · subst h; omega
    · exact h
  have hi : k / d < zs.length := Nat.div_lt_of_lt_mul (by rw [Nat.mul_comm]; exact hkn)
  have hmd := Nat.mod_lt k hd0
  have hkk : k / d * d + k % d = k := by rw [Nat.mul_comm]; exact Nat.div_add_mod k d
  refine ⟨k / d, hi, fun he => ?_⟩
  obtain ⟨z0, z1⟩ := hz (k / d) hi
  have h1 : numT (flipB (packTo zs d R zs.length) k) d (k / d) d = numT (packTo zs d R zs.length) d (k / d) d := by
    rw [num_pack hz (by omega) hf (k / d) hi]; omega
  have h2 : (numT (flipB (packTo zs d R zs.length) k) d (k / d) d).testBit (k % d) = (numT (packTo zs d R zs.length) d (k / d) d).testBit (k % d) := by rw [h1]
  rw [numT_bit, numT_bit, hkk, hb, decide_eq_true hmd] at h2
  simp at h2
theorem anyW_fit {zs : List Int} {d : Nat} (h : anyW zs (d : Nat) = false) : ∀ i, i < zs.length → bw (zs.getD i 0) ≤ d := by
  intro i hi
  by_cases hh : bw (zs.getD i 0) ≤ d
  · exact hh
  · rw [anyW_yes hi (by omega)] at h
    cases h
theorem fit_anyW {zs : List Int} {d : Nat} (h : ∀ i, i < zs.length → bw (zs.getD i 0) ≤ d) : anyW zs (d : Nat) = false := by
  unfold anyW
  rw [List.any_eq_false]
  intro x hx
  obtain ⟨i, hi, rfl⟩ := List.getElem_of_mem hx
  have := h i hi
  rw [List.getD_eq_getElem?_getD, List.getElem?_eq_getElem hi] at this
  simp only [Option.getD_some] at this
  simp only [decide_eq_true_eq]
  omega
end Go.Tk
