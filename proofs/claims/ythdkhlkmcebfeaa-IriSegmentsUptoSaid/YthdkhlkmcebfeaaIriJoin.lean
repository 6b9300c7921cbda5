/- tail, join: the program's, the document's. -/
import Derived.Test.YthdkhlkmcebfeaaIriSplits
import Derived.Laws.Concat
import Derived.Deep.RegionHeld3
import Derived.Deep.RegionWith
import Derived.Deep.DrawnRows
set_option linter.unusedVariables false
set_option linter.unusedSimpArgs false
namespace Go.Tk
open Go Go.RowKit
def tailL (qu fr : List UInt8) (hq hf : Bool) : List UInt8 := (if hq then 63 :: qu else []) ++ (if hf then 35 :: fr else [])
def joinL (sc au pa qu fr : List UInt8) (ha hq hf : Bool) : List UInt8 := (if sc = [] then [] else sc ++ [58]) ++ (if ha then 47 :: 47 :: au else []) ++ pa ++ tailL qu fr hq hf
theorem tailL_len (qu fr : List UInt8) (hq hf : Bool) : (tailL qu fr hq hf).length ≤ qu.length + fr.length + 2 := by
  cases hq <;> cases hf <;> simp [tailL] <;> omega
def Prts.tail (p : Prts) : List UInt8 := tailL p.qu p.fr p.hq p.hf
def Prts.text (p : Prts) : List UInt8 := joinL p.sc p.au p.pa p.qu p.fr p.ha p.hq p.hf
theorem byte_ext {a b : ByteArray} (h : a.data.toList = b.data.toList) : a = b := by
  exact congrArg ByteArray.mk (Array.ext' h)
theorem cat_data (a b : ByteArray) : (a ++ b).data.toList = a.data.toList ++ b.data.toList := by
  rw [ByteArray.data_append]; simp
end Go.Tk
namespace Go.Proofs.Ythdkhlkmcebfeaa
open Go.RowKit Go.Tk
theorem itail_calls (sc au pa qu fr : List UInt8) (ha hq hf : Bool) (w : World) (hz : qu.length + fr.length ≤ 1000000000000000) :
    Calls Try.prog 68 #[.agg #[.string ⟨sc.toArray⟩, .string ⟨au.toArray⟩, .string ⟨pa.toArray⟩, .string ⟨qu.toArray⟩, .string ⟨fr.toArray⟩, .bool ha, .bool hq, .bool hf]] w fun e w' => e = .returned (.string ⟨(tailL qu fr hq hf).toArray⟩) ∧ Below w.heap.size w w' := by
  obtain ⟨bs, hbs⟩ : ∃ x : ByteArray, x = ⟨sc.toArray⟩ := ⟨_, rfl⟩
  obtain ⟨ba, hba⟩ : ∃ x : ByteArray, x = ⟨au.toArray⟩ := ⟨_, rfl⟩
  obtain ⟨bp, hbp⟩ : ∃ x : ByteArray, x = ⟨pa.toArray⟩ := ⟨_, rfl⟩
  obtain ⟨bq, hbq⟩ : ∃ x : ByteArray, x = ⟨qu.toArray⟩ := ⟨_, rfl⟩
  obtain ⟨bf, hbf⟩ : ∃ x : ByteArray, x = ⟨fr.toArray⟩ := ⟨_, rfl⟩
  rw [← hbs, ← hba, ← hbp, ← hbq, ← hbf]
  have z1 : bq.size + bf.size ≤ 1000000000000000 := by rw [hbq, hbf]; exact hz
  have HBQ := Lib.hid hbq
  have HBF := Lib.hid hbf
  clear hbs hba hbp hbq hbf hz
  cases hq <;> cases hf
  all_goals
    go_enter Try.func68, Try.ntmps68
    go_wp2
    go_ret
    refine ⟨?_, (Below.refl _ _).alloc (Nat.le_refl _) _⟩
    refine ret_str ?_
    apply byte_ext
    simp [tailL, HBQ.out, HBF.out, cat_data]
theorem rtail_calls (sc au pa qu fr : List UInt8) (ha hq hf : Bool) (w : World) (hz : qu.length + fr.length ≤ 1000000000000000) :
    Calls Try.prog 69 #[.agg #[.string ⟨sc.toArray⟩, .string ⟨au.toArray⟩, .string ⟨pa.toArray⟩, .string ⟨qu.toArray⟩, .string ⟨fr.toArray⟩, .bool ha, .bool hq, .bool hf]] w fun e w' => e = .returned (.string ⟨(tailL qu fr hq hf).toArray⟩) ∧ Below w.heap.size w w' := by
  obtain ⟨bs, hbs⟩ : ∃ x : ByteArray, x = ⟨sc.toArray⟩ := ⟨_, rfl⟩
  obtain ⟨ba, hba⟩ : ∃ x : ByteArray, x = ⟨au.toArray⟩ := ⟨_, rfl⟩
  obtain ⟨bp, hbp⟩ : ∃ x : ByteArray, x = ⟨pa.toArray⟩ := ⟨_, rfl⟩
  obtain ⟨bq, hbq⟩ : ∃ x : ByteArray, x = ⟨qu.toArray⟩ := ⟨_, rfl⟩
  obtain ⟨bf, hbf⟩ : ∃ x : ByteArray, x = ⟨fr.toArray⟩ := ⟨_, rfl⟩
  rw [← hbs, ← hba, ← hbp, ← hbq, ← hbf]
  have z1 : bq.size + bf.size ≤ 1000000000000000 := by rw [hbq, hbf]; exact hz
  have HBQ := Lib.hid hbq
  have HBF := Lib.hid hbf
  clear hbs hba hbp hbq hbf hz
  cases hq <;> cases hf
  all_goals
    go_enter Try.func69, Try.ntmps69
    go_wp2
    go_ret
    refine ⟨?_, (Below.refl _ _).alloc (Nat.le_refl _) _⟩
    refine ret_str ?_
    apply byte_ext
    simp [tailL, HBQ.out, HBF.out, cat_data]
set_option maxHeartbeats 4000000 in
set_option maxRecDepth 100000 in
theorem ijoin_calls (sc au pa qu fr : List UInt8) (ha hq hf : Bool) (w : World) (hz : sc.length + au.length + pa.length + qu.length + fr.length ≤ 1000000000000000) :
    Calls Try.prog 50 #[.agg #[.string ⟨sc.toArray⟩, .string ⟨au.toArray⟩, .string ⟨pa.toArray⟩, .string ⟨qu.toArray⟩, .string ⟨fr.toArray⟩, .bool ha, .bool hq, .bool hf]] w fun e w' => e = .returned (.string ⟨(joinL sc au pa qu fr ha hq hf).toArray⟩) ∧ Below w.heap.size w w' := by
  have htl := fun w => itail_calls sc au pa qu fr ha hq hf w (by omega)
  have hne : (⟨sc.toArray⟩ : ByteArray).toList = sc := Lib.toList_data _
  obtain ⟨bs, hbs⟩ : ∃ x : ByteArray, x = ⟨sc.toArray⟩ := ⟨_, rfl⟩
  obtain ⟨ba, hba⟩ : ∃ x : ByteArray, x = ⟨au.toArray⟩ := ⟨_, rfl⟩
  obtain ⟨bp, hbp⟩ : ∃ x : ByteArray, x = ⟨pa.toArray⟩ := ⟨_, rfl⟩
  obtain ⟨bq, hbq⟩ : ∃ x : ByteArray, x = ⟨qu.toArray⟩ := ⟨_, rfl⟩
  obtain ⟨bf, hbf⟩ : ∃ x : ByteArray, x = ⟨fr.toArray⟩ := ⟨_, rfl⟩
  obtain ⟨bt, hbt⟩ : ∃ x : ByteArray, x = ⟨(tailL qu fr hq hf).toArray⟩ := ⟨_, rfl⟩
  have z2 : bt.size ≤ qu.length + fr.length + 2 := by rw [hbt]; exact tailL_len qu fr hq hf
  have z1 : bs.size + ba.size + bp.size + bt.size ≤ 1000000000000002 := by
    have : bs.size = sc.length := by rw [hbs]; rfl
    have : ba.size = au.length := by rw [hba]; rfl
    have : bp.size = pa.length := by rw [hbp]; rfl
    omega
  rw [← hbs, ← hba, ← hbp, ← hbq, ← hbf] at htl ⊢
  rw [← hbt] at htl
  rw [← hbs] at hne
  have HTL := Lib.hid htl
  have HBS := Lib.hid hbs
  have HBA := Lib.hid hba
  have HBP := Lib.hid hbp
  have HBT := Lib.hid hbt
  have HNE := Lib.hid hne
  clear hbs hba hbp hbq hbf hbt hz htl hne z2
  by_cases h0 : sc = []
  · have e0 : bs.toList.isEmpty = true := by rw [HNE.out, h0]; rfl
    have e1 : bs = ByteArray.empty := by rw [HBS.out, h0]; rfl
    have H0 := Lib.hid h0
    have H1 := Lib.hid e1
    clear h0 e1
    cases ha
    all_goals
      go_enter Try.func50, Try.ntmps50
      go_wp2_with fail
      first
        | go_region_with (first
          | (go_at_call 68; refine (HTL.out _).mono ?_; rintro e w' ⟨rfl, hb⟩; have c2 := (hb.cell (p := ⟨w.heap.size, 2, none⟩) (by simp)).trans (show _ = some (Value.string bp) by simp)))
        | fail
      all_goals go_wp2_with fail
      all_goals go_ret
      all_goals refine ⟨ret_str (byte_ext ?_), by first | exact ((Below.refl _ _).alloc (Nat.le_refl _) _).trans (hb.mono (by simp)) | exact (((Below.refl _ _).alloc (Nat.le_refl _) _).drew).trans (hb.mono (by simp))⟩
      all_goals simp [joinL, H0.out, HBA.out, HBP.out, HBT.out, cat_data]
  · have e0 : bs.toList.isEmpty = false := by rw [HNE.out]; simpa using h0
    have H0 := Lib.hid h0
    clear h0
    cases ha
    all_goals
      go_enter Try.func50, Try.ntmps50
      go_wp2_with fail
      first
        | go_region_with (first
          | (go_at_call 68; refine (HTL.out _).mono ?_; rintro e w' ⟨rfl, hb⟩; have c2 := (hb.cell (p := ⟨w.heap.size, 2, none⟩) (by simp)).trans (show _ = some (Value.string bp) by simp)))
        | fail
      all_goals go_wp2_with fail
      all_goals go_ret
      all_goals refine ⟨ret_str (byte_ext ?_), by first | exact ((Below.refl _ _).alloc (Nat.le_refl _) _).trans (hb.mono (by simp)) | exact (((Below.refl _ _).alloc (Nat.le_refl _) _).drew).trans (hb.mono (by simp))⟩
      all_goals simp [joinL, H0.out, HBS.out, HBA.out, HBP.out, HBT.out, cat_data]
set_option maxHeartbeats 4000000 in
set_option maxRecDepth 100000 in
theorem rjoin_calls (sc au pa qu fr : List UInt8) (ha hq hf : Bool) (w : World) (hz : sc.length + au.length + pa.length + qu.length + fr.length ≤ 1000000000000000) :
    Calls Try.prog 51 #[.agg #[.string ⟨sc.toArray⟩, .string ⟨au.toArray⟩, .string ⟨pa.toArray⟩, .string ⟨qu.toArray⟩, .string ⟨fr.toArray⟩, .bool ha, .bool hq, .bool hf]] w fun e w' => e = .returned (.string ⟨(joinL sc au pa qu fr ha hq hf).toArray⟩) ∧ Below w.heap.size w w' := by
  have htl := fun w => rtail_calls sc au pa qu fr ha hq hf w (by omega)
  have hne : (⟨sc.toArray⟩ : ByteArray).toList = sc := Lib.toList_data _
  obtain ⟨bs, hbs⟩ : ∃ x : ByteArray, x = ⟨sc.toArray⟩ := ⟨_, rfl⟩
  obtain ⟨ba, hba⟩ : ∃ x : ByteArray, x = ⟨au.toArray⟩ := ⟨_, rfl⟩
  obtain ⟨bp, hbp⟩ : ∃ x : ByteArray, x = ⟨pa.toArray⟩ := ⟨_, rfl⟩
  obtain ⟨bq, hbq⟩ : ∃ x : ByteArray, x = ⟨qu.toArray⟩ := ⟨_, rfl⟩
  obtain ⟨bf, hbf⟩ : ∃ x : ByteArray, x = ⟨fr.toArray⟩ := ⟨_, rfl⟩
  obtain ⟨bt, hbt⟩ : ∃ x : ByteArray, x = ⟨(tailL qu fr hq hf).toArray⟩ := ⟨_, rfl⟩
  have z2 : bt.size ≤ qu.length + fr.length + 2 := by rw [hbt]; exact tailL_len qu fr hq hf
  have z1 : bs.size + ba.size + bp.size + bt.size ≤ 1000000000000002 := by
    have : bs.size = sc.length := by rw [hbs]; rfl
    have : ba.size = au.length := by rw [hba]; rfl
    have : bp.size = pa.length := by rw [hbp]; rfl
    omega
  rw [← hbs, ← hba, ← hbp, ← hbq, ← hbf] at htl ⊢
  rw [← hbt] at htl
  rw [← hbs] at hne
  have HTL := Lib.hid htl
  have HBS := Lib.hid hbs
  have HBA := Lib.hid hba
  have HBP := Lib.hid hbp
  have HBT := Lib.hid hbt
  have HNE := Lib.hid hne
  clear hbs hba hbp hbq hbf hbt hz htl hne z2
  by_cases h0 : sc = []
  · have e0 : bs.toList.isEmpty = true := by rw [HNE.out, h0]; rfl
    have e1 : bs = ByteArray.empty := by rw [HBS.out, h0]; rfl
    have H0 := Lib.hid h0
    have H1 := Lib.hid e1
    clear h0 e1
    cases ha
    all_goals
      go_enter Try.func51, Try.ntmps51
      go_wp2_with fail
      first
        | go_region_with (first
          | (go_at_call 69; refine (HTL.out _).mono ?_; rintro e w' ⟨rfl, hb⟩; have c2 := (hb.cell (p := ⟨w.heap.size, 2, none⟩) (by simp)).trans (show _ = some (Value.string bp) by simp)))
        | fail
      all_goals go_wp2_with fail
      all_goals go_ret
      all_goals refine ⟨ret_str (byte_ext ?_), by first | exact ((Below.refl _ _).alloc (Nat.le_refl _) _).trans (hb.mono (by simp)) | exact (((Below.refl _ _).alloc (Nat.le_refl _) _).drew).trans (hb.mono (by simp))⟩
      all_goals simp [joinL, H0.out, HBA.out, HBP.out, HBT.out, cat_data]
  · have e0 : bs.toList.isEmpty = false := by rw [HNE.out]; simpa using h0
    have H0 := Lib.hid h0
    clear h0
    cases ha
    all_goals
      go_enter Try.func51, Try.ntmps51
      go_wp2_with fail
      first
        | go_region_with (first
          | (go_at_call 69; refine (HTL.out _).mono ?_; rintro e w' ⟨rfl, hb⟩; have c2 := (hb.cell (p := ⟨w.heap.size, 2, none⟩) (by simp)).trans (show _ = some (Value.string bp) by simp)))
        | fail
      all_goals go_wp2_with fail
      all_goals go_ret
      all_goals refine ⟨ret_str (byte_ext ?_), by first | exact ((Below.refl _ _).alloc (Nat.le_refl _) _).trans (hb.mono (by simp)) | exact (((Below.refl _ _).alloc (Nat.le_refl _) _).drew).trans (hb.mono (by simp))⟩
      all_goals simp [joinL, H0.out, HBS.out, HBA.out, HBP.out, HBT.out, cat_data]
end Go.Proofs.Ythdkhlkmcebfeaa
