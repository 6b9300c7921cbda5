/- The texts that rise, out of some. -/
import Derived.Test.YtjgcmnppiaikcaaDkQ
import Derived.Test.YtjgcmnppiaikcaaStrs
set_option linter.unusedVariables false
set_option linter.unusedSimpArgs false
namespace Go.Proofs.Ytjgcmnppiaikcaa
open Go.RowKit Go.Tk
/-- Is this one taken behind those? -/
def takB (A : List (List UInt8)) (s : List UInt8) : Bool := decide (s.length ≤ 262144) && (decide (A.length = 0) || ltB (A.getD (A.length - 1) []) s)
/-- What rises of the first i. -/
def risN (L : List (List UInt8)) : Nat → List (List UInt8)
  | 0 => []
  | i + 1 => if takB (risN L i) (L.getD i []) = true then risN L i ++ [L.getD i []] else risN L i
theorem ris_len (L : List (List UInt8)) : ∀ i, (risN L i).length ≤ i
  | 0 => by simp [risN]
  | i + 1 => by
    have := ris_len L i
    simp only [risN]
    split
    · simp; omega
    · omega
theorem getD_snoc {A : List (List UInt8)} {s : List UInt8} {i : Nat} : (A ++ [s]).getD i [] = if i < A.length then A.getD i [] else if i = A.length then s else [] := by
  simp only [List.getD_eq_getElem?_getD]
  by_cases h : i < A.length
  · rw [if_pos h, List.getElem?_append_left h]
  · rw [if_neg h, List.getElem?_append_right (by omega)]
    by_cases h2 : i = A.length
    · rw [if_pos h2, h2, Nat.sub_self]; rfl
    · rw [if_neg h2, List.getElem?_eq_none (by simp; omega)]; rfl
theorem ris_good (L : List (List UInt8)) : ∀ i, i ≤ L.length → (∀ j, j < (risN L i).length → ((risN L i).getD j []).length ≤ 262144) ∧ (∀ j, 0 < j → j < (risN L i).length → ltB ((risN L i).getD (j - 1) []) ((risN L i).getD j []) = true) ∧ tot (risN L i) ≤ tot (L.take i)
  | 0, _ => by simp [risN, tot]
  | i + 1, hi => by
    obtain ⟨h1, h2, h3⟩ := ris_good L i (by omega)
    have ht := tot_take (L := L) (i := i) (by omega)
    simp only [risN]
    split
    · rename_i hc
      unfold takB at hc
      simp only [Bool.and_eq_true, decide_eq_true_eq, Bool.or_eq_true] at hc
      generalize risN L i = A at *
      refine ⟨fun j hj => ?_, fun j hj0 hj => ?_, by rw [tot_snoc]; omega⟩
      · rw [getD_snoc]
        simp only [List.length_append, List.length_cons, List.length_nil] at hj
        split
        · exact h1 j (by assumption)
        · rw [if_pos (by omega)]; exact hc.1
      · simp only [List.length_append, List.length_cons, List.length_nil] at hj
        rw [getD_snoc, getD_snoc]
        by_cases hj2 : j < A.length
        · rw [if_pos (by omega), if_pos hj2]; exact h2 j hj0 hj2
        · have hj3 : j = A.length := by omega
          rw [if_pos (by omega), if_neg hj2, if_pos hj3, hj3]
          rcases hc.2 with h | h
          · omega
          · exact h
    · exact ⟨h1, h2, by omega⟩
theorem ris_Good {L : List (List UInt8)} (hf : tot L ≤ 2000000) : Good (risN L L.length) := by
  obtain ⟨h1, h2, h3⟩ := ris_good L L.length (Nat.le_refl _)
  exact ⟨h1, h2, by have := tot_mono L L.length; omega⟩
theorem OwL.toS {e : TypeId} {base : Nat} {w : World} {v : Value} {L : List (List UInt8)} (h : OwL e base w v L) : ∃ a c, v = .slice a L.length c ∧ SlS w a L.length c L := by
  obtain ⟨a, c, hv, h1, h2, h3⟩ := h.sl
  refine ⟨a, c, hv, rfl, h1, h2, fun i hi => ?_⟩
  obtain ⟨g, hg, hc⟩ := h3 i hi
  refine ⟨g, 0, hg, ?_⟩
  have : L.getD i [] = L[i] := by simp [hi]
  rw [Nat.zero_add, hc, this]
theorem Try.infoStr : (Try.prog.info? 9).map (fun i => (i.zero, i.size, i.bytes)) = some (some (.string ⟨#[]⟩), 1, 16) := by kernel_rfl
set_option maxRecDepth 100000 in
set_option maxHeartbeats 2000000 in
theorem rising_calls (w : World) (a : Option Addr) (n c : Nat) (L : List (List UInt8)) (h : SlS w a n c L) (ht : TxtOk L) (hn : n ≤ 2000000) :
    Calls Try.prog 16 #[.slice a n c] w fun e w' => ∃ v, e = .returned v ∧ OwL 9 w.heap.size w' v (risN L n) ∧ Below w.heap.size w w' := by
  have hl := h.len
  have hle := h.le
  have hmx := h.max
  have HT := Lib.hid ht
  have HS := Lib.hid h
  have HL := Lib.hid hl
  clear h ht hl
  go_enter Try.func16, Try.ntmps16
  go_wp2
  go_loopw [3, 4] (fun v iv wr => ∃ (i : Nat), iv = .int .i64 (i : Nat) ∧ i ≤ n ∧ OwL 9 w.heap.size wr v (risN L i) ∧ Below w.heap.size w wr) (fun _ iv _ => n - (intOf iv).toNat)
  case atStart => exact ⟨0, rfl, Nat.zero_le _, OwL.nil _ _ _, Below.refl _ _⟩
  case round =>
    obtain ⟨i, rfl, hi, how, hb⟩ := hrel
    obtain ⟨va, vc, rfl, vl, vm, vcell⟩ := how.sl
    have hln := ris_len L i
    have HB := Lib.hid hb
    have HOW := Lib.hid how
    clear hb how
    by_cases hlt : i < n
    rotate_left
    · obtain rfl : i = n := by omega
      clear vcell
      go_wp2
      go_ret
      exact ⟨_, rfl, HOW.out, HB.out⟩
    obtain ⟨b, o, rfl, hc⟩ := (HS.out.keep HB.out).cell i hlt
    have hsz : (L.getD i []).length ≤ 9223372036854775807 := HT.out _ (by
      have hlL : i < L.length := by rw [HL.out]; exact hlt
      have : L.getD i [] = L[i] := by simp [hlL]
      rw [this]; exact List.getElem_mem hlL)
    have hst : risN L (i + 1) = if takB (risN L i) (L.getD i []) = true then risN L i ++ [L.getD i []] else risN L i := rfl
    obtain ⟨s, hs⟩ : ∃ s, s = L.getD i [] := ⟨_, rfl⟩
    rw [← hs] at hc hsz hst
    obtain ⟨A, hA⟩ : ∃ A, A = risN L i := ⟨_, rfl⟩
    have how := HOW.out
    rw [← hA] at vl vcell hln hst how
    have HOW := Lib.hid how
    have HA := Lib.hid hA
    obtain ⟨sB, hsB⟩ : ∃ sB : ByteArray, sB = ⟨s.toArray⟩ := ⟨_, rfl⟩
    have hsl : sB.size = s.length := by rw [hsB]; simp [ByteArray.size]
    have hsv : strV' s = .string sB := by rw [hsB]; rfl
    rw [← hsB] at hc
    have hln2 : (risN L i).length = A.length := by rw [hA]
    rw [hln2]
    have HST := Lib.hid hst
    have HSV := Lib.hid hsv
    have HSB := Lib.hid hsB
    have hsz2 : sB.size ≤ 9223372036854775807 := by omega
    clear hst hsv hs hA how hln2 hsB
    by_cases h1 : s.length ≤ 262144
    rotate_left
    · have d1 : decide ((sB.size : Int) ≤ 262144) = false := decide_eq_false (by omega)
      have d2 : decide (sB.size ≤ 262144) = false := decide_eq_false (by omega)
      have hno : risN L (i + 1) = A := by rw [HST.out]; unfold takB; rw [decide_eq_false h1]; rfl
      have HNO := Lib.hid hno
      clear hno vcell h1 hsl
      go_upto_region 5 with fail
      go_quiet (fail)
      go_wp2
      go_roundw
      case rel => exact ⟨i + 1, by go_num, by omega, by rw [HNO.out]; exact HOW.out.drewN nq, below_drewN HB.out nq⟩
      case measure => simp [intOf]; omega
    have d1 : decide ((sB.size : Int) ≤ 262144) = true := decide_eq_true (by omega)
    have d2 : decide (sB.size ≤ 262144) = true := decide_eq_true (by omega)
    by_cases h0 : A.length = 0
    · have hyes : risN L (i + 1) = A ++ [s] := by rw [HST.out]; unfold takB; rw [decide_eq_true h1, decide_eq_true h0]; rfl
      have HYES := Lib.hid hyes
      have e0 : (A.length == 0) = true := by simp [h0]
      have e1 : ((A.length : Int) == 0) = true := by simp [h0]
      clear hyes vcell h1 hsl h0
      go_upto_region 5 with fail
      go_quiet (fail)
      go_wp2_with (at_builtin; refine wpList_appL rfl _ _ 22 rfl w.heap.size 9 (.string ⟨#[]⟩) Try.underlying22 Try.infoStr rfl _ A rfl ((HOW.out.drewN nq).alloc _) (wr.drewN nq).heap.size 1 1 [s] rfl rfl (0, 0) (by rw [List.map_cons, List.map_nil, HSV.out]; exact heap_alloc_new _ _) (by simp; omega) (by have := HB.out.size; simp; omega) ?_; intro v' w1 hown' hgrow _; (have HW := Lib.hid hown'); (have HG := Lib.hid hgrow); clear hown' hgrow)
      go_roundw
      case rel =>
        refine ⟨i + 1, by go_num, by omega, by rw [HYES.out]; exact HW.out, ?_⟩
        exact ((below_drewN HB.out nq).alloc (by have := HB.out.size; simpa using this) _).grown HG.out (by have := HB.out.size; simp; omega) (fun k e => (HOW.out.lt k e).1)
      case measure => simp [intOf]; omega
    obtain ⟨m, hm⟩ : ∃ m, A.length = m + 1 := ⟨A.length - 1, by omega⟩
    obtain ⟨g, hg, hcm⟩ := vcell m (by omega)
    subst hg
    obtain ⟨tB, htB⟩ : ∃ tB : ByteArray, tB = ⟨(A[m]).toArray⟩ := ⟨_, rfl⟩
    rw [← htB] at hcm
    have hgm : A.getD (A.length - 1) [] = A[m] := by
      have e9 : A.length - 1 = m := by omega
      rw [e9]
      simp [show m < A.length by omega]
    obtain ⟨lt, hlt9⟩ : ∃ lt, lt = ltB (A.getD (A.length - 1) []) s := ⟨_, rfl⟩
    have hlb : Op.bytesLess tB.toList sB.toList = lt := by
      rw [hlt9, hgm, Lib.toList_data, Lib.toList_data, htB, HSB.out]; rfl
    have hst2 : risN L (i + 1) = if lt = true then A ++ [s] else A := by
      rw [HST.out]; unfold takB; rw [decide_eq_true h1, decide_eq_false h0, ← hlt9]
      cases lt <;> simp
    have HST2 := Lib.hid hst2
    have e0 : (m + 1 == 0) = false := by simp
    have e1 : ((m : Int) + 1 == 0) = false := by simp; omega
    have hw1 : IntKind.i64.wrap ((m : Int) + 1 - 1) = (m : Int) := by rw [IntKind.wrap_i64]; omega
    have hw2 : IntKind.i64.wrap (m : Int) = (m : Int) := by rw [IntKind.wrap_i64]; omega
    have hmb : m < 2000000 := by omega
    clear hst2 hlt9 hgm htB vcell h1 hsl h0
    rw [hm] at HOW vl
    cases lt with
    | false =>
      have hno : risN L (i + 1) = A := by rw [HST2.out, if_neg (by simp)]
      have HNO := Lib.hid hno
      clear hno
      go_upto_region 5 with fail
      rw [hm]
      go_quiet (fail)
      go_wp2
      go_roundw
      case rel => exact ⟨i + 1, by go_num, by omega, by rw [HNO.out]; exact HOW.out.drewN nq, below_drewN HB.out nq⟩
      case measure => simp [intOf]; omega
    | true =>
      have hyes : risN L (i + 1) = A ++ [s] := by rw [HST2.out, if_pos rfl]
      have HYES := Lib.hid hyes
      clear hyes
      go_upto_region 5 with fail
      rw [hm]
      go_quiet (fail)
      go_wp2_with (at_builtin; refine wpList_appL rfl _ _ 22 rfl w.heap.size 9 (.string ⟨#[]⟩) Try.underlying22 Try.infoStr rfl _ A rfl ((HOW.out.drewN nq).alloc _) (wr.drewN nq).heap.size 1 1 [s] rfl rfl (0, 0) (by rw [List.map_cons, List.map_nil, HSV.out]; exact heap_alloc_new _ _) (by simp; omega) (by have := HB.out.size; simp; omega) ?_; intro v' w1 hown' hgrow _; (have HW := Lib.hid hown'); (have HG := Lib.hid hgrow); clear hown' hgrow)
      go_roundw
      case rel =>
        refine ⟨i + 1, by go_num, by omega, by rw [HYES.out]; exact HW.out, ?_⟩
        exact ((below_drewN HB.out nq).alloc (by have := HB.out.size; simpa using this) _).grown HG.out (by have := HB.out.size; simp; omega) (fun k e => (HOW.out.lt k e).1)
      case measure => simp [intOf]; omega
end Go.Proofs.Ytjgcmnppiaikcaa
