/- dict.Build of texts that are few. -/
import Derived.Test.YtjgcmnppiaikcaaDoorDkP
import Derived.Test.YtjgcmnppiaikcaaDoorBitsBuf4
import Derived.Outline
import Derived.Deep.Cut
set_option linter.unusedVariables false
set_option linter.unusedSimpArgs false
namespace Go.Tk
open Go Go.RowKit
theorem extract_drop (s : ByteArray) (n : Nat) : s.extract n s.size = ⟨(s.data.toList.drop n).toArray⟩ := by
  rw [Lib.extract_eq, List.take_of_length_le (by rw [List.length_drop, ← Lib.size_eq]; omega)]
end Go.Tk
namespace Go.Proofs.YtjgcmnppiaikcaaDoor
open Go.RowKit Go.Tk
theorem alikeB_calls (w : World) (s t : ByteArray) (hs : s.size ≤ 1000000000000000) (ht : t.size ≤ 1000000000000000) :
    Calls Tryd.prog 18 #[.string s, .string t] w fun e w' => e = .returned (.int .i64 (comN s.data.toList t.data.toList : Nat)) ∧ ∃ m, w' = w.drewN m :=
  alike_calls w s.data.toList t.data.toList (by rw [← Lib.size_eq]; exact hs) (by rw [← Lib.size_eq]; exact ht)
theorem putF_fit {m : Int} {zs ns : List Int} (h : (zs.length : Int) + ns.length ≤ m) : putF m (zs, false) ns = (zs ++ ns, false) := by
  unfold putF
  simp only [Bool.false_eq_true, if_false]
  rw [if_neg (by omega)]
theorem putF_no {m : Int} {zs ns : List Int} (h : m < (zs.length : Int) + ns.length) : putF m (zs, false) ns = (zs, true) := by
  unfold putF
  simp only [Bool.false_eq_true, if_false]
  rw [if_pos (by omega)]
theorem putF_full {m : Int} {zs ns : List Int} : putF m (zs, true) ns = (zs, true) := by unfold putF; simp
theorem putF_len {m : Int} {st : List Int × Bool} {ns : List Int} : (putF m st ns).1.length ≤ st.1.length + ns.length := by
  unfold putF
  split
  · omega
  · split
    · simp
    · simp
theorem putF4 {M : Int} {A B C D : List Int} (h : ((A ++ (B ++ (C ++ D))).length : Int) ≤ M) : putF M (putF M (putF M (putF M ([], false) A) B) C) D = (A ++ (B ++ (C ++ D)), false) := by
  simp only [List.length_append] at h
  rw [putF_fit (by simp; omega), putF_fit (by simp; omega), putF_fit (by simp; omega), putF_fit (by simp; omega)]
  simp
theorem putF4_no {M : Int} {A B C D : List Int} (h : M < ((A ++ (B ++ (C ++ D))).length : Int)) : (putF M (putF M (putF M (putF M ([], false) A) B) C) D).2 = true := by
  simp only [List.length_append] at h
  by_cases h1 : M < A.length
  · rw [putF_no (by simp; omega), putF_full, putF_full, putF_full]
  · rw [putF_fit (zs := []) (by simp; omega)]
    by_cases h2 : M < A.length + B.length
    · rw [putF_no (by simp; omega), putF_full, putF_full]
    · rw [putF_fit (by simp; omega)]
      by_cases h3 : M < A.length + B.length + C.length
      · rw [putF_no (by simp; omega), putF_full]
      · rw [putF_fit (by simp; omega), putF_no (by simp; omega)]
theorem packOut_len (zs : List Int) (wd : Int) : (packOut zs wd).length ≤ 8 * zs.length + 1 := by
  unfold packOut
  split
  · next h =>
    rw [packTo_len]
    have h1 : 0 ≤ wd ∧ wd ≤ 64 := by
      unfold packOk at h
      rw [Bool.and_eq_true] at h
      simpa using h.1
    have h2 : zs.length * wd.toNat ≤ zs.length * 64 := Nat.mul_le_mul_left _ (by omega)
    omega
  · simp
theorem OwC.mono {k : IntKind} {e : TypeId} {base base' : Nat} {w : World} {v : Value} {zs : List Int} (h : OwC k e base w v zs) (hb : base' ≤ base) : OwC k e base' w v zs := by
  obtain ⟨a, c, e1, h⟩ := h
  exact ⟨a, c, e1, h.mono hb⟩
theorem OwC.slN {k : IntKind} {e : TypeId} {base : Nat} {w : World} {v : Value} {zs : List Int} (h : OwC k e base w v zs) : ∃ a, v = .slice a zs.length zs.length ∧ SlI k w a zs.length zs.length zs ∧ (a = none → zs.length = 0) := by
  obtain ⟨a, hv, hs⟩ := h.sl
  refine ⟨a, hv, hs, ?_⟩
  rintro rfl
  obtain ⟨a', c, e1, h2⟩ := h
  rw [hv] at e1
  have e2 : a' = none := by injection e1 with e1; exact e1.symm
  subst e2
  have := h2.nil_cap
  have := h2.max
  omega
theorem Kept.to_below {S : Nat → Prop} {a b : World} (h : Kept S a b) {n0 : Nat} (hB : n0 ≤ a.heap.size) (hS : ∀ k, S k → n0 ≤ k) : Below n0 a b := Kept.below h hB hS
end Go.Proofs.YtjgcmnppiaikcaaDoor
