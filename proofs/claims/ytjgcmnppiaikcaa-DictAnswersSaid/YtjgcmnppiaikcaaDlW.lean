/- DkY DlR DlM DlW, laid as one. -/
import Derived.Test.YtjgcmnppiaikcaaDkV
import Derived.Test.YtjgcmnppiaikcaaDkQ
import Derived.Test.YtjgcmnppiaikcaaPkL
import Derived.Test.YtjgcmnppiaikcaaStrs
import Derived.Test.YtjgcmnppiaikcaaDkX
import Derived.Test.YtjgcmnppiaikcaaDlF
set_option linter.unusedVariables false
set_option linter.unusedSimpArgs false
/- Open takes what Build makes. Plain. -/
namespace Go.Proofs.Ytjgcmnppiaikcaa
open Go Go.RowKit Go.Tk
theorem ent_first {L : List (List UInt8)} (hG : Good L) {eb : List UInt8} (he : nums eb = areaN L L.length) {i : Nat} (hi : i < L.length) (h0 : i % 16 ≠ 0) :
    (upS (nums (eb.drop (areaN L i).length)) 0 0 mxU).1 = (comN (L.getD (i - 1) []) (L.getD i []) : Nat) := by
  obtain ⟨r, hr⟩ := area_split L hi
  have hz : nums (eb.drop (areaN L i).length) = entB L i ++ r := by rw [← nums_drop, he, hr, List.drop_left]
  have hE : entB L i = vz ((comN (L.getD (i - 1) []) (L.getD i []) : Nat) : Int) ++ (vz (((L.getD i []).length - comN (L.getD (i - 1) []) (L.getD i []) : Nat) : Int) ++ nums ((L.getD i []).drop (comN (L.getD (i - 1) []) (L.getD i [])))) := by unfold entB; rw [if_neg h0]
  have hcl := comN_le (L.getD (i - 1) []) (L.getD i [])
  have hsz := hG.sz i hi
  rw [hz, hE, List.append_assoc]
  have := ups_vz ((comN (L.getD (i - 1) []) (L.getD i []) : Nat) : Int) [] ((vz (((L.getD i []).length - comN (L.getD (i - 1) []) (L.getD i []) : Nat) : Int) ++ nums ((L.getD i []).drop (comN (L.getD (i - 1) []) (L.getD i [])))) ++ r) (by omega) (by omega) (i := 0) rfl
  rw [List.nil_append] at this
  rw [this]
theorem opL_built {L : List (List UInt8)} (hG : Good L) {eb : List UInt8} (he : nums eb = areaN L L.length) : ∀ (f i : Nat) (last : List UInt8), i + f = L.length → (0 < i → last = L.getD (i - 1) []) →
    opL eb (packD L) (widthD L).toNat L.length f i (areaN L i).length last = (0, 0)
  | 0, i, last, h, _ => by
    have hl : eb.length = (areaN L L.length).length := by rw [← nums_len eb, he]
    simp only [opL]
    rw [if_neg (by rw [hl, show i = L.length by omega]; omega)]
  | f + 1, i, last, h, hl => by
    have hi : i < L.length := by omega
    have hent := ent_built hG he hi (last := last) (fun h => hl (by omega))
    have hn : i % 16 = 0 → numT (packD L) (widthD L).toNat (i / 16) (widthD L).toNat = (areaN L i).length := fun h0 => by
      have := num_built hG (i / 16) (by omega)
      rw [this, show 16 * (i / 16) = i by omega]
    simp only [opL, hent]
    rw [if_neg (fun h => h.2 (hn h.1)), if_neg (by simp)]
    rw [if_neg (fun h => by
      have h2 := hG.up i h.1 hi
      rw [hl h.1, h2] at h
      cases h.2)]
    rw [if_neg (fun h => by
      have h2 := ent_first hG he hi h.1
      rw [← hl (by omega)] at h2
      exact h.2 h2)]
    rw [Int.toNat_natCast]
    exact opL_built hG he f (i + 1) (L.getD i []) (by omega) (fun _ => by rw [Nat.add_sub_cancel])
/-- Open takes what Build makes; what lies where. -/
theorem open_built {L : List (List UInt8)} (hG : Good L) {b : List UInt8} (hb : nums b = dictB L) :
    shE b = (0, 0) ∧ opE b = (0, 0) ∧ hdN b = L.length ∧ hdW b = (widthD L).toNat ∧ nums (hdP b) = packD L ∧ nums (hdE b) = areaN L L.length := by
  have hnL := tot_len L
  have ht := hG.tt
  have hA := area_small hG.sz hG.tt L.length (Nat.le_refl _)
  obtain ⟨A, hAe⟩ : ∃ A, A = (areaN L L.length).length := ⟨_, rfl⟩
  have hz : nums b = vz ((L.length : Nat) : Int) ++ (vz ((A : Nat) : Int) ++ (packD L ++ areaN L L.length)) := by rw [hb, hAe]; rfl
  have h1 : hdA b = (((L.length : Nat) : Int), (vz ((L.length : Nat) : Int)).length, 0) := by
    unfold hdA; rw [hz]
    have := ups_vz ((L.length : Nat) : Int) [] (vz ((A : Nat) : Int) ++ (packD L ++ areaN L L.length)) (by omega) (by omega) (i := 0) rfl
    simpa using this
  have h2 : hdB b = (((A : Nat) : Int), (vz ((L.length : Nat) : Int)).length + (vz ((A : Nat) : Int)).length, 0) := by
    unfold hdB; rw [h1, hz]
    exact ups_vz ((A : Nat) : Int) (vz ((L.length : Nat) : Int)) (packD L ++ areaN L L.length) (by omega) (by omega) rfl
  have hN : hdN b = L.length := by unfold hdN; rw [h1]; rfl
  have hS : hdS b = A := by unfold hdS; rw [h2]; rfl
  have hW : hdW b = (widthD L).toNat := by unfold hdW widthD; rw [h2, hAe]
  have h3 : hd3 b = (vz ((L.length : Nat) : Int)).length + (vz ((A : Nat) : Int)).length := by unfold hd3; rw [h2]
  have h4 : hd4 b = hd3 b + (packD L).length := by unfold hd4; rw [hN, hW, packD_len hG]
  have hlen : b.length = hd4 b + A := by
    rw [← nums_len b, hz, h4, h3, hAe]
    simp only [List.length_append]; omega
  have hsh : shE b = (0, 0) := by
    unfold shE
    rw [if_neg (by rw [h1]; simp), if_neg (by rw [h1]; simp only; omega), if_neg (by rw [h2]; simp), if_neg (by rw [h2]; simp only; omega), if_neg (by rw [hS]; omega), if_neg (by rw [hS]; omega)]
  have hP : nums (hdP b) = packD L := by
    unfold hdP
    rw [← nums_take, ← nums_drop, hz, h4, h3, ← List.append_assoc, show ((vz ((L.length : Nat) : Int)).length + (vz ((A : Nat) : Int)).length) = (vz ((L.length : Nat) : Int) ++ vz ((A : Nat) : Int)).length by simp, List.drop_left, Nat.add_sub_cancel_left, List.take_left]
  have hE : nums (hdE b) = areaN L L.length := by
    unfold hdE
    rw [← nums_take, ← nums_drop, hz, hS, h4, h3, ← List.append_assoc, ← List.append_assoc, show ((vz ((L.length : Nat) : Int)).length + (vz ((A : Nat) : Int)).length + (packD L).length) = ((vz ((L.length : Nat) : Int) ++ vz ((A : Nat) : Int)) ++ packD L).length by simp [Nat.add_assoc], List.drop_left, hAe, List.take_length]
  refine ⟨hsh, ?_, hN, hW, hP, hE⟩
  have hl := plac_len' L L.length
  have hu := plac_u64 hG.sz hG.tt L.length (Nat.le_refl _)
  have hop : opErr (packD L) ((L.length + 15) / 16 : Nat) ((widthD L).toNat : Nat) = 0 := by
    have := open_pack (zs := placN L L.length) (fun i hi => hu _ (by
      have : (placN L L.length).getD i 0 = (placN L L.length)[i] := by simp [hi]
      rw [this]; exact List.getElem_mem hi)) (d := (widthD L).toNat) (by have := (width_range hG).2; omega) (by omega)
    rw [hl] at this
    rw [packD_eq hG, hl]
    exact this
  have hlo := opL_built hG hE L.length 0 [] (by omega) (fun h => by omega)
  unfold opE
  rw [hsh, hN, hW, hP, hop]
  have hlo2 : opL (hdE b) (packD L) (widthD L).toNat L.length L.length 0 0 [] = (0, 0) := hlo
  rw [hlo2]
  simp
end Go.Proofs.Ytjgcmnppiaikcaa
/- The texts that rise, out of some. -/
namespace Go.Proofs.Ytjgcmnppiaikcaa
open Go.RowKit Go.Tk
/-- Is this one taken behind those? -/
def takB (A : List (List UInt8)) (s : List UInt8) : Bool := decide (s.length ≤ 262144) && (decide (A.length = 0) || ltB (A.getD (A.length - 1) []) s)
/-- What rises of the first i. -/
def risN (L : List (List UInt8)) : Nat → List (List UInt8)
  | 0 => []
  | i + 1 => if takB (risN L i) (L.getD i []) = true then risN L i ++ [L.getD i []] else risN L i
theorem ris_len (L : List (List UInt8)) : ∀ i, (risN L i).length ≤ i
  | 0 => by simp [risN]
  | i + 1 => by
    have := ris_len L i
    simp only [risN]
    split
    · simp; omega
    · omega
theorem getD_snoc {A : List (List UInt8)} {s : List UInt8} {i : Nat} : (A ++ [s]).getD i [] = if i < A.length then A.getD i [] else if i = A.length then s else [] := by
  simp only [List.getD_eq_getElem?_getD]
  by_cases h : i < A.length
  · rw [if_pos h, List.getElem?_append_left h]
  · rw [if_neg h, List.getElem?_append_right (by omega)]
    by_cases h2 : i = A.length
    · rw [if_pos h2, h2, Nat.sub_self]; rfl
    · rw [if_neg h2, List.getElem?_eq_none (by simp; omega)]; rfl
theorem ris_good (L : List (List UInt8)) : ∀ i, i ≤ L.length → (∀ j, j < (risN L i).length → ((risN L i).getD j []).length ≤ 262144) ∧ (∀ j, 0 < j → j < (risN L i).length → ltB ((risN L i).getD (j - 1) []) ((risN L i).getD j []) = true) ∧ tot (risN L i) ≤ tot (L.take i)
  | 0, _ => by simp [risN, tot]
  | i + 1, hi => by
    obtain ⟨h1, h2, h3⟩ := ris_good L i (by omega)
    have ht := tot_take (L := L) (i := i) (by omega)
    simp only [risN]
    split
    · rename_i hc
      unfold takB at hc
      simp only [Bool.and_eq_true, decide_eq_true_eq, Bool.or_eq_true] at hc
      generalize risN L i = A at *
      refine ⟨fun j hj => ?_, fun j hj0 hj => ?_, by rw [tot_snoc]; omega⟩
      · rw [getD_snoc]
        simp only [List.length_append, List.length_cons, List.length_nil] at hj
        split
        · exact h1 j (by assumption)
        · rw [if_pos (by omega)]; exact hc.1
      · simp only [List.length_append, List.length_cons, List.length_nil] at hj
        rw [getD_snoc, getD_snoc]
        by_cases hj2 : j < A.length
        · rw [if_pos (by omega), if_pos hj2]; exact h2 j hj0 hj2
        · have hj3 : j = A.length := by omega
          rw [if_pos (by omega), if_neg hj2, if_pos hj3, hj3]
          rcases hc.2 with h | h
          · omega
          · exact h
    · exact ⟨h1, h2, by omega⟩
theorem ris_Good {L : List (List UInt8)} (hf : tot L ≤ 2000000) : Good (risN L L.length) := by
  obtain ⟨h1, h2, h3⟩ := ris_good L L.length (Nat.le_refl _)
  exact ⟨h1, h2, by have := tot_mono L L.length; omega⟩
theorem OwL.toS {e : TypeId} {base : Nat} {w : World} {v : Value} {L : List (List UInt8)} (h : OwL e base w v L) : ∃ a c, v = .slice a L.length c ∧ SlS w a L.length c L := by
  obtain ⟨a, c, hv, h1, h2, h3⟩ := h.sl
  refine ⟨a, c, hv, rfl, h1, h2, fun i hi => ?_⟩
  obtain ⟨g, hg, hc⟩ := h3 i hi
  refine ⟨g, 0, hg, ?_⟩
  have : L.getD i [] = L[i] := by simp [hi]
  rw [Nat.zero_add, hc, this]
theorem Try.infoStr : (Try.prog.info? 9).map (fun i => (i.zero, i.size, i.bytes)) = some (some (.string ⟨#[]⟩), 1, 16) := by kernel_rfl
set_option maxRecDepth 100000 in
set_option maxHeartbeats 2000000 in
theorem rising_calls (w : World) (a : Option Addr) (n c : Nat) (L : List (List UInt8)) (h : SlS w a n c L) (ht : TxtOk L) (hn : n ≤ 2000000) :
    Calls Try.prog 16 #[.slice a n c] w fun e w' => ∃ v, e = .returned v ∧ OwL 9 w.heap.size w' v (risN L n) ∧ Below w.heap.size w w' := by
  have hl := h.len
  have hle := h.le
  have hmx := h.max
  have HT := Lib.hid ht
  have HS := Lib.hid h
  have HL := Lib.hid hl
  clear h ht hl
  go_enter Try.func16, Try.ntmps16
  go_wp2
  go_loopw [3, 4] (fun v iv wr => ∃ (i : Nat), iv = .int .i64 (i : Nat) ∧ i ≤ n ∧ OwL 9 w.heap.size wr v (risN L i) ∧ Below w.heap.size w wr) (fun _ iv _ => n - (intOf iv).toNat)
  case atStart => exact ⟨0, rfl, Nat.zero_le _, OwL.nil _ _ _, Below.refl _ _⟩
  case round =>
    obtain ⟨i, rfl, hi, how, hb⟩ := hrel
    obtain ⟨va, vc, rfl, vl, vm, vcell⟩ := how.sl
    have hln := ris_len L i
    have HB := Lib.hid hb
    have HOW := Lib.hid how
    clear hb how
    by_cases hlt : i < n
    rotate_left
    · obtain rfl : i = n := by omega
      clear vcell
      go_wp2
      go_ret
      exact ⟨_, rfl, HOW.out, HB.out⟩
    obtain ⟨b, o, rfl, hc⟩ := (HS.out.keep HB.out).cell i hlt
    have hsz : (L.getD i []).length ≤ 9223372036854775807 := HT.out _ (by
      have hlL : i < L.length := by rw [HL.out]; exact hlt
      have : L.getD i [] = L[i] := by simp [hlL]
      rw [this]; exact List.getElem_mem hlL)
    have hst : risN L (i + 1) = if takB (risN L i) (L.getD i []) = true then risN L i ++ [L.getD i []] else risN L i := rfl
    obtain ⟨s, hs⟩ : ∃ s, s = L.getD i [] := ⟨_, rfl⟩
    rw [← hs] at hc hsz hst
    obtain ⟨A, hA⟩ : ∃ A, A = risN L i := ⟨_, rfl⟩
    have how := HOW.out
    rw [← hA] at vl vcell hln hst how
    have HOW := Lib.hid how
    have HA := Lib.hid hA
    obtain ⟨sB, hsB⟩ : ∃ sB : ByteArray, sB = ⟨s.toArray⟩ := ⟨_, rfl⟩
    have hsl : sB.size = s.length := by rw [hsB]; simp [ByteArray.size]
    have hsv : strV' s = .string sB := by rw [hsB]; rfl
    rw [← hsB] at hc
    have hln2 : (risN L i).length = A.length := by rw [hA]
    rw [hln2]
    have HST := Lib.hid hst
    have HSV := Lib.hid hsv
    have HSB := Lib.hid hsB
    have hsz2 : sB.size ≤ 9223372036854775807 := by omega
    clear hst hsv hs hA how hln2 hsB
    by_cases h1 : s.length ≤ 262144
    rotate_left
    · have d1 : decide ((sB.size : Int) ≤ 262144) = false := decide_eq_false (by omega)
      have d2 : decide (sB.size ≤ 262144) = false := decide_eq_false (by omega)
      have hno : risN L (i + 1) = A := by rw [HST.out]; unfold takB; rw [decide_eq_false h1]; rfl
      have HNO := Lib.hid hno
      clear hno vcell h1 hsl
      go_upto_region 5 with fail
      go_quiet (fail)
      go_wp2
      go_roundw
      case rel => exact ⟨i + 1, by go_num, by omega, by rw [HNO.out]; exact HOW.out.drewN nq, below_drewN HB.out nq⟩
      case measure => simp [intOf]; omega
    have d1 : decide ((sB.size : Int) ≤ 262144) = true := decide_eq_true (by omega)
    have d2 : decide (sB.size ≤ 262144) = true := decide_eq_true (by omega)
    by_cases h0 : A.length = 0
    · have hyes : risN L (i + 1) = A ++ [s] := by rw [HST.out]; unfold takB; rw [decide_eq_true h1, decide_eq_true h0]; rfl
      have HYES := Lib.hid hyes
      have e0 : (A.length == 0) = true := by simp [h0]
      have e1 : ((A.length : Int) == 0) = true := by simp [h0]
      clear hyes vcell h1 hsl h0
      go_upto_region 5 with fail
      go_quiet (fail)
      go_wp2_with (at_builtin; refine wpList_appL rfl _ _ 22 rfl w.heap.size 9 (.string ⟨#[]⟩) Try.underlying22 Try.infoStr rfl _ A rfl ((HOW.out.drewN nq).alloc _) (wr.drewN nq).heap.size 1 1 [s] rfl rfl (0, 0) (by rw [List.map_cons, List.map_nil, HSV.out]; exact heap_alloc_new _ _) (by simp; omega) (by have := HB.out.size; simp; omega) ?_; intro v' w1 hown' hgrow _; (have HW := Lib.hid hown'); (have HG := Lib.hid hgrow); clear hown' hgrow)
      go_roundw
      case rel =>
        refine ⟨i + 1, by go_num, by omega, by rw [HYES.out]; exact HW.out, ?_⟩
        exact ((below_drewN HB.out nq).alloc (by have := HB.out.size; simpa using this) _).grown HG.out (by have := HB.out.size; simp; omega) (fun k e => (HOW.out.lt k e).1)
      case measure => simp [intOf]; omega
    obtain ⟨m, hm⟩ : ∃ m, A.length = m + 1 := ⟨A.length - 1, by omega⟩
    obtain ⟨g, hg, hcm⟩ := vcell m (by omega)
    subst hg
    obtain ⟨tB, htB⟩ : ∃ tB : ByteArray, tB = ⟨(A[m]).toArray⟩ := ⟨_, rfl⟩
    rw [← htB] at hcm
    have hgm : A.getD (A.length - 1) [] = A[m] := by
      have e9 : A.length - 1 = m := by omega
      rw [e9]
      simp [show m < A.length by omega]
    obtain ⟨lt, hlt9⟩ : ∃ lt, lt = ltB (A.getD (A.length - 1) []) s := ⟨_, rfl⟩
    have hlb : Op.bytesLess tB.toList sB.toList = lt := by
      rw [hlt9, hgm, Lib.toList_data, Lib.toList_data, htB, HSB.out]; rfl
    have hst2 : risN L (i + 1) = if lt = true then A ++ [s] else A := by
      rw [HST.out]; unfold takB; rw [decide_eq_true h1, decide_eq_false h0, ← hlt9]
      cases lt <;> simp
    have HST2 := Lib.hid hst2
    have e0 : (m + 1 == 0) = false := by simp
    have e1 : ((m : Int) + 1 == 0) = false := by simp; omega
    have hw1 : IntKind.i64.wrap ((m : Int) + 1 - 1) = (m : Int) := by rw [IntKind.wrap_i64]; omega
    have hw2 : IntKind.i64.wrap (m : Int) = (m : Int) := by rw [IntKind.wrap_i64]; omega
    have hmb : m < 2000000 := by omega
    clear hst2 hlt9 hgm htB vcell h1 hsl h0
    rw [hm] at HOW vl
    cases lt with
    | false =>
      have hno : risN L (i + 1) = A := by rw [HST2.out, if_neg (by simp)]
      have HNO := Lib.hid hno
      clear hno
      go_upto_region 5 with fail
      rw [hm]
      go_quiet (fail)
      go_wp2
      go_roundw
      case rel => exact ⟨i + 1, by go_num, by omega, by rw [HNO.out]; exact HOW.out.drewN nq, below_drewN HB.out nq⟩
      case measure => simp [intOf]; omega
    | true =>
      have hyes : risN L (i + 1) = A ++ [s] := by rw [HST2.out, if_pos rfl]
      have HYES := Lib.hid hyes
      clear hyes
      go_upto_region 5 with fail
      rw [hm]
      go_quiet (fail)
      go_wp2_with (at_builtin; refine wpList_appL rfl _ _ 22 rfl w.heap.size 9 (.string ⟨#[]⟩) Try.underlying22 Try.infoStr rfl _ A rfl ((HOW.out.drewN nq).alloc _) (wr.drewN nq).heap.size 1 1 [s] rfl rfl (0, 0) (by rw [List.map_cons, List.map_nil, HSV.out]; exact heap_alloc_new _ _) (by simp; omega) (by have := HB.out.size; simp; omega) ?_; intro v' w1 hown' hgrow _; (have HW := Lib.hid hown'); (have HG := Lib.hid hgrow); clear hown' hgrow)
      go_roundw
      case rel =>
        refine ⟨i + 1, by go_num, by omega, by rw [HYES.out]; exact HW.out, ?_⟩
        exact ((below_drewN HB.out nq).alloc (by have := HB.out.size; simpa using this) _).grown HG.out (by have := HB.out.size; simp; omega) (fun k e => (HOW.out.lt k e).1)
      case measure => simp [intOf]; omega
end Go.Proofs.Ytjgcmnppiaikcaa
/- The dictionary of texts that rise, made by the program alone. -/
namespace Go.Proofs.Ytjgcmnppiaikcaa
open Go.RowKit Go.Tk
theorem bytes_of {zs : List Int} (h : ∀ x ∈ zs, 0 ≤ x ∧ x < 256) : ∃ b : List UInt8, nums b = zs := by
  refine ⟨zs.map fun x => UInt8.ofNat x.toNat, ?_⟩
  unfold nums
  rw [List.map_map]
  conv => rhs; rw [← List.map_id zs]
  apply List.map_congr_left
  intro x hx
  have := h x hx
  simp only [Function.comp, id]
  rw [UInt8.toNat_ofNat']
  omega
theorem entB_u8 (L : List (List UInt8)) (i : Nat) : ∀ x ∈ entB L i, 0 ≤ x ∧ x < 256 := by
  intro x hx
  unfold entB at hx
  split at hx
  · rcases List.mem_append.1 hx with h | h
    · exact vz_u8 _ x h
    · exact nums_u8 _ x h
  · rcases List.mem_append.1 hx with h | h
    · exact vz_u8 _ x h
    · rcases List.mem_append.1 h with h | h
      · exact vz_u8 _ x h
      · exact nums_u8 _ x h
theorem area_u8 (L : List (List UInt8)) : ∀ i, ∀ x ∈ areaN L i, 0 ≤ x ∧ x < 256
  | 0, x, hx => by simp [areaN] at hx
  | i + 1, x, hx => by
    simp only [areaN] at hx
    rcases List.mem_append.1 hx with h | h
    · exact area_u8 L i x h
    · exact entB_u8 L i x h
theorem u8_mem {zs : List Int} (h : U8 zs) : ∀ x ∈ zs, 0 ≤ x ∧ x < 256 := by
  intro x hx
  obtain ⟨i, hi, rfl⟩ := List.mem_iff_getElem.1 hx
  have := h i hi
  simpa [hi] using this
theorem dictB_u8 {L : List (List UInt8)} (hG : Good L) : ∀ x ∈ dictB L, 0 ≤ x ∧ x < 256 := by
  intro x hx
  unfold dictB at hx
  rcases List.mem_append.1 hx with h | h
  · exact vz_u8 _ x h
  rcases List.mem_append.1 h with h | h
  · exact vz_u8 _ x h
  rcases List.mem_append.1 h with h | h
  · rw [packD_eq hG] at h; exact u8_mem (packTo_u8 _ _ _ _) x h
  · exact area_u8 L _ x h
theorem dictB_len {L : List (List UInt8)} (hG : Good L) : (dictB L).length ≤ 67108864 := by
  have hA := area_small hG.sz hG.tt L.length (Nat.le_refl _)
  have hn := tot_len L
  have ht := hG.tt
  have hw := (width_range hG).2
  have h1 := (vz_len (L.length : Nat)).2
  have h2 := (vz_len ((areaN L L.length).length : Nat)).2
  have hp := packD_len hG
  have hm : (L.length + 15) / 16 * (widthD L).toNat ≤ 125001 * 24 := Nat.mul_le_mul (by omega) hw
  unfold dictB
  simp only [List.length_append]
  generalize (L.length + 15) / 16 * (widthD L).toNat = q at hp hm
  omega
theorem chk_good {L : List (List UInt8)} (hG : Good L) : chkE L = 0 := by
  unfold chkE
  rw [long_no hG.sz, rise_yes hG.up]
  rfl
theorem build_good {L : List (List UInt8)} (hG : Good L) : buildE L 67108864 = 0 ∧ buildO L 67108864 = dictB L := by
  have h := dictB_len hG
  have he : buildE L 67108864 = 0 := by unfold buildE; rw [if_neg (by rw [chk_good hG]; simp), if_neg (by omega)]
  exact ⟨he, by unfold buildO; rw [if_pos he]⟩
theorem numD_calls (w : World) (x : Int) : Calls Try.prog 13 #[.int .i64 x] w fun e w' => e = .returned (.int .i64 x) ∧ w = w' := by
  go_enter Try.func13, Try.ntmps13
  go_wp2
  go_ret
  exact ⟨rfl, rfl⟩
set_option maxRecDepth 100000 in
set_option maxHeartbeats 2000000 in
theorem made_calls (w : World) (a : Option Addr) (n c : Nat) (L : List (List UInt8)) (h : SlS w a n c L) (ht : TxtOk L) (hG : Good L) :
    Calls Try.prog 23 #[.slice a n c] w fun e w' => ∃ gd pa pc ea ec eb v, e = .returned (.tuple #[.pointer (some ⟨gd, 0, none⟩), v]) ∧ nums eb = areaN L L.length ∧ DictM w' gd L.length (widthD L).toNat pa pc (packD L) ea ec (nums eb) ∧ OwC .u8 5 w.heap.size w' v (dictB L) ∧ Below w.heap.size w w' := by
  have hbl := dbuild_calls w a n c L h ht hG.tt 67108864 ⟨by decide, by decide⟩
  rw [(build_good hG).1, (build_good hG).2] at hbl
  obtain ⟨b, hb⟩ := bytes_of (dictB_u8 hG)
  have hob := open_built hG hb
  have HB := Lib.hid hbl
  have HOB := Lib.hid hob
  have HBB := Lib.hid hb
  clear hbl hob h ht
  have hbz : (dictB L).length = b.length := by rw [← hb, nums_len]
  have hop : ∀ w1 x, OwC .u8 5 w.heap.size w1 (.slice x b.length b.length) (dictB L) → SlI .u8 w1 x b.length b.length (nums b) → (x = none → b.length = 0) →
      Calls Try.prog 18 #[.slice x b.length b.length] w1 fun e w' => ∃ gd pa pc ea ec, e = .returned (.tuple #[.pointer (some ⟨gd, 0, none⟩), .nilIface]) ∧ Below w1.heap.size w1 w' ∧ DictM w' gd L.length (widthD L).toNat pa pc (packD L) ea ec (nums (hdE b)) := fun w1 x ho hs hn => by
    have := open_yes w1 x b.length b hs hn (fun y hy => by subst hy; exact (ho.lt y.block rfl).2) (by rw [HOB.out.1])
    refine this.mono ?_
    rintro e w' ⟨hb1, h⟩
    rw [HOB.out.2.1] at h
    rcases h with ⟨h0, _⟩ | ⟨_, gd, pa, pc, ea, ec, h1, h2, h3⟩
    · exact absurd rfl h0
    · rw [HOB.out.2.2.1, HOB.out.2.2.2.1, HOB.out.2.2.2.2.1] at h3
      exact ⟨gd, pa, pc, ea, ec, h2, hb1, h3⟩
  have HOP := Lib.hid hop
  have HBZ := Lib.hid hbz
  have HG := Lib.hid hG
  clear hop hbz hb hG
  go_enter Try.func23, Try.ntmps23
  go_wp2_with (first
    | (go_at_call 11; (with_reducible refine HB.out.mono ?_); rintro e w1 ⟨v1, rfl, hob, hb1⟩; obtain ⟨x1, hv1, hs1, hn1⟩ := OwC.slN hob; rw [HBZ.out] at hv1; rw [HBZ.out, ← HBB.out] at hs1; rw [HBZ.out] at hn1; subst hv1; (have HO1 := Lib.hid hob); (have HS1 := Lib.hid hs1); (have HN1 := Lib.hid hn1); (have HB1 := Lib.hid hb1); clear hob hs1 hn1 hb1)
    | (go_at_call 13; refine (numD_calls _ _).mono ?_; rintro e x ⟨rfl, rfl⟩)
    | (go_at_call 18; (with_reducible refine (HOP.out _ _ HO1.out HS1.out HN1.out).mono ?_); rintro e w2 ⟨gd, pa, pc, ea, ec, rfl, hb2, hd2⟩; (have HB2 := Lib.hid hb2); (have HD2 := Lib.hid hd2); clear hb2 hd2))
  go_ret2
  have HB2w := HB1.out.trans (HB2.out.mono HB1.out.size)
  refine ⟨gd, pa, pc, ea, ec, hdE b, _, rfl, HOB.out.2.2.2.2.2, HD2.out, ?_, HB2w⟩
  exact OwC.kept2 HO1.out (Kept.none_of_below HB2.out) (fun _ _ h => h)
end Go.Proofs.Ytjgcmnppiaikcaa
/- The chapter's first two examples. -/
namespace Go.Proofs.Ytjgcmnppiaikcaa
open Go.RowKit Go.Tk
def exL : List (List UInt8) := [[97], [97, 98], [98]]
theorem ex_good : Good exL := by
  refine ⟨fun i hi => ?_, fun i h0 hi => ?_, by decide⟩
  · match i, hi with
    | 0, _ => decide
    | 1, _ => decide
    | 2, _ => decide
  · match i, hi with
    | 1, _ => decide +kernel
    | 2, _ => decide +kernel
theorem ex_b11 : buildE exL 11 = 0 ∧ buildO exL 11 = dictB exL ∧ (dictB exL).length = 11 ∧ buildE exL 10 = 1 := by decide +kernel
theorem ex_ask : fnd exL [97, 97] = 1 ∧ fnd exL [97] = 0 ∧ fnd2 exL [97] = 2 ∧ exL.getD 1 [] = [97, 98] ∧ exL.length = 3 := by decide +kernel
theorem ex_txt : TxtOk exL := by
  intro s hs
  simp only [exL, List.mem_cons, List.not_mem_nil, or_false] at hs
  rcases hs with rfl | rfl | rfl <;> decide
theorem dlen_calls (w : World) (gd n wd : Nat) (pa : Option Addr) (pc : Nat) (pz : List Int) (ea : Option Addr) (ec : Nat) (ez : List Int) (h : DictM w gd n wd pa pc pz ea ec ez) :
    Calls Try.prog 24 #[.pointer (some ⟨gd, 0, none⟩)] w fun e w' => e = .returned (.int .i64 (n : Nat)) ∧ w = w' := by
  have c0 := h.c0
  clear h
  go_enter Try.func24, Try.ntmps24
  go_wp2
  go_ret
  exact ⟨rfl, rfl⟩
theorem ex_sl {w : World} {g : Nat} (h : w.heap[g]? = some (.cells #[.string ⟨#[97]⟩, .string ⟨#[97, 98]⟩, .string ⟨#[98]⟩] 9 (0, 0))) : SlS w (some ⟨g, 0, none⟩) 3 3 exL := by
  refine ⟨rfl, Nat.le_refl _, by decide, fun i hi => ⟨g, 0, rfl, ?_⟩⟩
  rw [Nat.zero_add, cell_of_row w g i _ _ _ h]
  match i, hi with
  | 0, _ => rfl
  | 1, _ => rfl
  | 2, _ => rfl
set_option maxRecDepth 100000 in
set_option maxHeartbeats 2000000 in
theorem works_calls (w : World) : Calls Try.prog 22 #[] w fun e w' => e = .returned (.bool true) ∧ Below w.heap.size w w' := by
  have hG := ex_good
  obtain ⟨x1, x2, x3, x4⟩ := ex_b11
  obtain ⟨y1, y2, y3, y4, y5⟩ := ex_ask
  obtain ⟨b, hb⟩ := bytes_of (dictB_u8 hG)
  have hob := open_built hG hb
  have hbz : b.length = 11 := by rw [← nums_len b, hb, x3]
  have hbl1 : ∀ W g, W.heap[g]? = some (.cells #[.string ⟨#[97]⟩, .string ⟨#[97, 98]⟩, .string ⟨#[98]⟩] 9 (0, 0)) → Calls Try.prog 11 #[.slice (some ⟨g, 0, none⟩) 3 3, .int .i64 11] W fun e w' => ∃ x, e = .returned (.tuple #[.slice x 11 11, .int .i64 0]) ∧ SlI .u8 w' x 11 11 (nums b) ∧ (x = none → False) ∧ (∀ y, x = some y → y.block < w'.heap.size) ∧ Below W.heap.size W w' := fun W g hg => by
    have := dbuild_calls W (some ⟨g, 0, none⟩) 3 3 exL (ex_sl hg) ex_txt hG.tt 11 ⟨by decide, by decide⟩
    rw [x1, x2] at this
    refine this.mono ?_
    rintro e w' ⟨v, rfl, ho, hbw⟩
    obtain ⟨x, hv, hs, hn⟩ := OwC.slN ho
    rw [x3] at hv hs hn
    subst hv
    exact ⟨x, rfl, by rw [hb]; exact hs, fun h => by have := hn h; omega, fun y hy => by subst hy; exact (ho.lt y.block rfl).2, hbw⟩
  have hbl2 : ∀ W g, W.heap[g]? = some (.cells #[.string ⟨#[97]⟩, .string ⟨#[97, 98]⟩, .string ⟨#[98]⟩] 9 (0, 0)) → Calls Try.prog 11 #[.slice (some ⟨g, 0, none⟩) 3 3, .int .i64 10] W fun e w' => ∃ v, e = .returned (.tuple #[v, .int .i64 1]) ∧ Below W.heap.size W w' := fun W g hg => by
    have := dbuild_calls W (some ⟨g, 0, none⟩) 3 3 exL (ex_sl hg) ex_txt hG.tt 10 ⟨by decide, by decide⟩
    rw [x4] at this
    exact this.mono fun e w' ⟨v, h1, h2, h3⟩ => ⟨v, h1, h3⟩
  have hop : ∀ W x, SlI .u8 W x 11 11 (nums b) → (x = none → False) → (∀ y, x = some y → y.block < W.heap.size) → Calls Try.prog 18 #[.slice x 11 11] W fun e w' => ∃ gd pa pc ea ec, e = .returned (.tuple #[.pointer (some ⟨gd, 0, none⟩), .nilIface]) ∧ DictM w' gd 3 (widthD exL).toNat pa pc (packD exL) ea ec (nums (hdE b)) ∧ Below W.heap.size W w' := fun W x hs hn ha => by
    have := open_yes W x 11 b (by rw [hbz]; exact hs) (fun h => (hn h).elim) ha (by rw [hob.1])
    rw [hbz] at this
    refine this.mono ?_
    rintro e w' ⟨hb1, h⟩
    rw [hob.2.1] at h
    rcases h with ⟨h0, _⟩ | ⟨_, gd, pa, pc, ea, ec, h1, h2, h3⟩
    · exact absurd rfl h0
    · rw [hob.2.2.1, hob.2.2.2.1, hob.2.2.2.2.1, y5] at h3
      exact ⟨gd, pa, pc, ea, ec, h2, h3, hb1⟩
  have hE := hob.2.2.2.2.2
  have hget : ∀ W gd pa pc ea ec, DictM W gd 3 (widthD exL).toNat pa pc (packD exL) ea ec (nums (hdE b)) → Calls Try.prog 25 #[.pointer (some ⟨gd, 0, none⟩), .int .i64 1] W fun e w' => e = .returned (.tuple #[.string ⟨#[97, 98]⟩, .bool true]) ∧ Below W.heap.size W w' := fun W gd pa pc ea ec hD => by
    have := get_calls W gd 3 _ pa pc _ ea ec _ hD 1 ⟨by decide, by decide⟩
    have e := get_built hG hE 1
    rw [y5] at e
    rw [e] at this
    exact this
  have hfind : ∀ W gd pa pc ea ec, DictM W gd 3 (widthD exL).toNat pa pc (packD exL) ea ec (nums (hdE b)) → Calls Try.prog 26 #[.pointer (some ⟨gd, 0, none⟩), .string ⟨#[97, 97]⟩] W fun e w' => e = .returned (.tuple #[.int .i64 1, .bool false]) ∧ Below W.heap.size W w' := fun W gd pa pc ea ec hD => by
    have := find_calls W gd 3 _ pa pc _ ea ec _ hD ⟨#[97, 97]⟩
    have e := find_built hG hE [97, 97]
    rw [y5, y1, y4] at e
    rw [show (⟨#[97, 97]⟩ : ByteArray).data.toList = [97, 97] from rfl, e] at this
    exact this
  have hrange : ∀ W gd pa pc ea ec, DictM W gd 3 (widthD exL).toNat pa pc (packD exL) ea ec (nums (hdE b)) → Calls Try.prog 27 #[.pointer (some ⟨gd, 0, none⟩), .string ⟨#[97]⟩] W fun e w' => e = .returned (.tuple #[.int .i64 0, .int .i64 2]) ∧ Below W.heap.size W w' := fun W gd pa pc ea ec hD => by
    have := range_calls W gd 3 _ pa pc _ ea ec _ hD ⟨#[97]⟩
    have e := range_built hG hE [97]
    rw [y5, y2, y3] at e
    rw [show (⟨#[97]⟩ : ByteArray).data.toList = [97] from rfl, e] at this
    exact this
  have H1 := Lib.hid hbl1
  have H2 := Lib.hid hbl2
  have HO := Lib.hid hop
  have HG := Lib.hid hget
  have HF := Lib.hid hfind
  have HR := Lib.hid hrange
  clear hbl1 hbl2 hop hget hfind hrange hob hbz hb hG hE x1 x2 x3 x4 y1 y2 y3 y4 y5
  go_enter Try.func22, Try.ntmps22
  go_upto_region 3 with (first
    | (go_at_call 11; (with_reducible refine (H1.out _ _ (heap_alloc_new _ _)).mono ?_); rintro e w1 ⟨x1, rfl, hs1, hn1, ha1, hb1⟩; (have HS1 := Lib.hid hs1); (have HN1 := Lib.hid hn1); (have HA1 := Lib.hid ha1); (have HB1 := Lib.hid hb1); clear hs1 hn1 ha1 hb1)
    | (go_at_call 11; (with_reducible refine (H2.out _ _ (heap_alloc_new _ _)).mono ?_); rintro e w2 ⟨v2, rfl, hb2⟩; (have HB2 := Lib.hid hb2); clear hb2))
  have b1 : Below w.heap.size w w1 := ((Below.refl _ w).alloc (Nat.le_refl _) _).trans (HB1.out.mono (by simp))
  have b12 : Below w1.heap.size w1 w2 := ((Below.refl _ w1).alloc (Nat.le_refl _) _).trans (HB2.out.mono (by simp))
  have b2 : Below w.heap.size w w2 := b1.trans (b12.mono b1.size)
  have hs2 := HS1.out.keep b12
  have ha2 : ∀ y, x1 = some y → y.block < w2.heap.size := fun y hy => Nat.lt_of_lt_of_le (HA1.out y hy) b12.size
  have HS2 := Lib.hid hs2
  have HA2 := Lib.hid ha2
  have HB := Lib.hid b2
  clear b1 b12 b2 hs2 ha2 HS1 HA1 HB1 HB2 H1 H2
  go_upto_region 4 with (go_at_call 18; (with_reducible refine (HO.out _ _ HS2.out HN1.out HA2.out).mono ?_); rintro e w3 ⟨gd, pa, pc, ea, ec, rfl, hd3, hb3⟩; (have HD3 := Lib.hid hd3); (have HB3 := Lib.hid (HB.out.trans (hb3.mono HB.out.size))); clear hd3 hb3)
  go_upto_region 6 with (first
    | (go_at_call 13; refine (numD_calls _ _).mono ?_; rintro e x ⟨rfl, rfl⟩)
    | (go_at_call 24; refine (dlen_calls _ _ _ _ _ _ _ _ _ _ HD3.out).mono ?_; rintro e x ⟨rfl, rfl⟩))
  go_upto_region 7 with (go_at_call 25; (with_reducible refine (HG.out _ _ _ _ _ _ HD3.out).mono ?_); rintro e w4 ⟨rfl, hb4⟩; (have HD4 := Lib.hid (HD3.out.keep hb4)); (have HB4 := Lib.hid (HB3.out.trans (hb4.mono HB3.out.size))); clear hb4)
  go_upto_region 8 with (go_at_call 26; (with_reducible refine (HF.out _ _ _ _ _ _ HD4.out).mono ?_); rintro e w5 ⟨rfl, hb5⟩; (have HD5 := Lib.hid (HD4.out.keep hb5)); (have HB5 := Lib.hid (HB4.out.trans (hb5.mono HB4.out.size))); clear hb5)
  go_upto_region 9 with (go_at_call 27; (with_reducible refine (HR.out _ _ _ _ _ _ HD5.out).mono ?_); rintro e w6 ⟨rfl, hb6⟩; (have HB6 := Lib.hid (HB5.out.trans (hb6.mono HB5.out.size))); clear hb6)
  go_wp2
  go_ret
  exact ⟨by simp, HB6.out⟩
end Go.Proofs.Ytjgcmnppiaikcaa
