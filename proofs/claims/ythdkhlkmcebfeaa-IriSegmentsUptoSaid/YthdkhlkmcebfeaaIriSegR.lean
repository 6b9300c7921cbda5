/- The document's list of the segments of a path. -/
import Derived.Test.YthdkhlkmcebfeaaIriSeg
import Derived.Test.YthdkhlkmcebfeaaStrs
import Derived.Deep.DeepMust
set_option linter.unusedVariables false
set_option linter.unusedSimpArgs false
namespace Go.Tk
open Go Go.RowKit
theorem segs_len : ∀ l : List UInt8, (segs l).length ≤ l.length + 1
  | [] => by simp [segs]
  | b :: l => by
    have ih := segs_len l
    by_cases h : b = 47
    · subst h; rw [segs_slash]; simp; omega
    · obtain ⟨s, r, e⟩ : ∃ s r, segs l = s :: r := by
        cases hs : segs l with
        | nil => exact absurd hs (segs_ne l)
        | cons s r => exact ⟨s, r, rfl⟩
      rw [segs_other h e]
      rw [e] at ih
      simp at ih ⊢; omega
theorem OwL.at' {e : TypeId} {base : Nat} {w : World} {g n c : Nat} {L : List (List UInt8)} (h : OwL e base w (.slice (some ⟨g, 0, none⟩) n c) L) (i : Nat) (hi : i < L.length) : w.cell? ⟨g, i, none⟩ = some (.string ⟨L[i].toArray⟩) := by
  obtain ⟨a, c', hv, _, _, hc⟩ := h.sl
  obtain ⟨g', hg, hcell⟩ := hc i hi
  simp only [Value.slice.injEq] at hv
  obtain ⟨rfl, _, _⟩ := hv
  cases hg
  exact hcell
theorem OwL.shape' {e : TypeId} {base : Nat} {w : World} {v : Value} {L : List (List UInt8)} (h : OwL e base w v L) (hL : 0 < L.length) : ∃ g c, v = .slice (some ⟨g, 0, none⟩) L.length c ∧ L.length ≤ c ∧ c ≤ 9223372036854775807 := by
  obtain ⟨a, c, rfl, h1, h2, hc⟩ := h.sl
  obtain ⟨g, rfl, _⟩ := hc 0 hL
  exact ⟨g, c, rfl, h1, h2⟩
theorem segs_pos (l : List UInt8) : 0 < (segs l).length := List.length_pos_iff.2 (segs_ne l)
theorem newc' {w : World} {e : TypeId} {x : ByteArray} {l : List UInt8} (h : x = ⟨l.toArray⟩) : (w.alloc (.cells #[.string x] e)).heap[w.heap.size]? = some (.cells ([l].map strV').toArray e (0, 0)) := by subst h; exact heap_alloc_new _ _
end Go.Tk
namespace Go.Proofs.Ythdkhlkmcebfeaa
open Go.RowKit Go.Tk
theorem Try.infoStr' : (Try.prog.info? 9).map (fun i => (i.zero, i.size, i.bytes)) = some (some (.string ByteArray.empty), 1, 16) := by kernel_rfl
set_option maxHeartbeats 2000000 in
theorem rsegments_calls (s : ByteArray) (w : World) (hs : s.size ≤ 1048576) :
    Calls Try.prog 16 #[.string s] w fun e w' => ∃ v, e = .returned v ∧ OwL 9 w.heap.size w' v (segs s.data.toList) ∧ Below w.heap.size w w' := by
  have hsl := segs_len s.data.toList
  rw [← Lib.size_eq] at hsl
  go_enter Try.func16, Try.ntmps16
  go_wp2_with fail
  go_loopw [0, 3, 4] (fun rv lv _ wr => ∃ (pre : List (List UInt8)) (r : ByteArray), rv = .string r ∧ r.size ≤ s.size ∧ segs s.data.toList = pre ++ segs r.data.toList ∧ OwL 9 w.heap.size wr lv pre ∧ Below w.heap.size w wr)
    (fun rv _ _ _ => match rv with | .string r => r.size | _ => 0)
  case atStart => exact ⟨[], s, rfl, Nat.le_refl _, rfl, OwL.nil _ _ _, Below.refl _ _⟩
  case round =>
    obtain ⟨pre, r, rfl, hr, hx, how, hb⟩ := hrel
    have hpl : pre.length ≤ s.size + 1 := by rw [hx, List.length_append] at hsl; omega
    have hun : ∀ w, Calls Try.prog 38 #[.string r, .string ⟨#[47]⟩] w fun e w' => e = .returned (.int .i64 (toS r.data.toList : Nat)) ∧ ∃ n, w' = w.drewN n := fun w =>
      (until_calls r ⟨#[47]⟩ w (by omega) (by decide)).mono fun _ _ ⟨h1, h2⟩ => ⟨h1.trans (ret_int (by rw [toS_among])), h2⟩
    have hle := toS_le r.data.toList
    have hcut := segs_cut r.data.toList
    rw [← Lib.size_eq] at hle hcut
    obtain ⟨m, hm⟩ : ∃ m, m = toS r.data.toList := ⟨_, rfl⟩
    rw [← hm] at hun hle hcut
    have hex := extract_take r m
    have hwr := hb.size
    have HUN := Lib.hid hun
    have HEX := Lib.hid hex
    have HX := Lib.hid hx
    have HOW := Lib.hid how
    have HB := Lib.hid hb
    have HCUT := Lib.hid hcut
    clear hun hex hx how hb hcut hm
    by_cases h : m < r.size
    · have e0 : ((m : Int) == (r.size : Int)) = false := by rw [beq_eq_false_iff_ne]; omega
      have hfin : segs s.data.toList = (pre ++ [r.data.toList.take m]) ++ segs (r.extract (m + 1) r.size).data.toList := by
        rw [HX.out, HCUT.out, if_pos h, extract_ds, List.append_assoc]; rfl
      have HF := Lib.hid hfin
      have hz : (r.extract (m + 1) r.size).size = r.size - (m + 1) := by rw [Lib.size_eq, extract_ds, List.length_drop, ← Lib.size_eq]
      have HZ := Lib.hid hz
      clear hfin hz
      go_wp2_with (first
        | (go_at_call 38; refine (HUN.out _).mono ?_; rintro e w' ⟨rfl, n1, rfl⟩)
        | (at_builtin; go_loud (refine wpList_appL rfl _ _ 24 rfl w.heap.size 9 (.string ByteArray.empty) Try.underlying24 Try.infoStr' rfl _ pre rfl ((HOW.out.drewN n1).alloc _) wr.heap.size 1 1 [r.data.toList.take m] rfl rfl (0, 0) (newc' HEX.out) (by simp; omega) (by simp; omega) ?_; intro v' w1 ho hg _; (have HO2 := Lib.hid ho); (have HB2 := Lib.hid (((Go.Tk.below_drewN HB.out n1).alloc hwr _).trans (below_of_grown hg (by simp; omega) (fun k e => (HOW.out.lt k e).1)))); clear ho hg)))
      go_roundw
      case rel => exact ⟨_, _, rfl, by rw [HZ.out]; omega, HF.out, HO2.out, HB2.out⟩
      case measure => simp only [HZ.out]; omega
    · have e0 : ((m : Int) == (r.size : Int)) = true := by rw [beq_iff_eq]; omega
      have hfin : segs s.data.toList = pre ++ [r.data.toList.take m] := by rw [HX.out, HCUT.out, if_neg h]
      have HF := Lib.hid hfin
      clear hfin
      go_wp2_with (first
        | (go_at_call 38; refine (HUN.out _).mono ?_; rintro e w' ⟨rfl, n1, rfl⟩)
        | (at_builtin; go_loud (refine wpList_appL rfl _ _ 24 rfl w.heap.size 9 (.string ByteArray.empty) Try.underlying24 Try.infoStr' rfl _ pre rfl ((HOW.out.drewN n1).alloc _) wr.heap.size 1 1 [r.data.toList.take m] rfl rfl (0, 0) (newc' HEX.out) (by simp; omega) (by simp; omega) ?_; intro v' w1 ho hg _; (have HO2 := Lib.hid ho); (have HB2 := Lib.hid (((Go.Tk.below_drewN HB.out n1).alloc hwr _).trans (below_of_grown hg (by simp; omega) (fun k e => (HOW.out.lt k e).1)))); clear ho hg)))
      go_ret
      exact ⟨_, rfl, by rw [HF.out]; exact HO2.out, HB2.out⟩
end Go.Proofs.Ythdkhlkmcebfeaa
