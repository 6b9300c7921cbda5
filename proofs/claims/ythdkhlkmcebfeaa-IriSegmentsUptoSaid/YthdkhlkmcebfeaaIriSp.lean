/- The parts of a reference: the program's split, the document's parts. -/
import Derived.Test.YthdkhlkmcebfeaaIriUp
import Derived.Test.YthdkhlkmcebfeaaOwn
import Derived.OneCell
import Derived.Deep.DeepMust
import Derived.Laws.Tables
import Derived.Deep.DeepCutAuto
import Derived.Deep.CutBlock
set_option linter.unusedVariables false
set_option linter.unusedSimpArgs false
namespace Go.Tk
open Go Go.RowKit
/-- The parts of a reference. -/
structure Prts where
  sc : List UInt8
  au : List UInt8
  pa : List UInt8
  qu : List UInt8
  fr : List UInt8
  ha : Bool
  hq : Bool
  hf : Bool
def strV (l : List UInt8) : Value := .string ⟨l.toArray⟩
def Prts.cells (p : Prts) : Array Value := #[strV p.sc, strV p.au, strV p.pa, strV p.qu, strV p.fr, .bool p.ha, .bool p.hq, .bool p.hf]
theorem Prts.one (p : Prts) : p.cells.all (·.oneCell') = true := by simp [Prts.cells, strV, Value.oneCell']
def Prts.val (p : Prts) : Value := .agg p.cells
def P0 : Prts := ⟨[], [], [], [], [], false, false, false⟩
def Prts.s1 (l : List UInt8) : List UInt8 := if sch l = 0 then l else l.drop (sch l + 1)
def Prts.hasA (l1 : List UInt8) : Bool := Lib.hasPrefix l1 [47, 47]
def Prts.s2 (l1 : List UInt8) : List UInt8 := if hasA l1 then (l1.drop 2).drop (unt (among [47, 63, 35]) (l1.drop 2)) else l1
def Prts.auth (l1 : List UInt8) : List UInt8 := if hasA l1 then (l1.drop 2).take (unt (among [47, 63, 35]) (l1.drop 2)) else []
def Prts.s3 (l2 : List UInt8) : List UInt8 := l2.drop (unt (among [63, 35]) l2)
def Prts.path (l2 : List UInt8) : List UInt8 := l2.take (unt (among [63, 35]) l2)
def Prts.hasQ (l3 : List UInt8) : Bool := Lib.hasPrefix l3 [63]
def Prts.s4 (l3 : List UInt8) : List UInt8 := if hasQ l3 then (l3.drop 1).drop (unt (among [35]) (l3.drop 1)) else l3
def Prts.query (l3 : List UInt8) : List UInt8 := if hasQ l3 then (l3.drop 1).take (unt (among [35]) (l3.drop 1)) else []
def Prts.hasF (l4 : List UInt8) : Bool := Lib.hasPrefix l4 [35]
def Prts.frag (l4 : List UInt8) : List UInt8 := if hasF l4 then l4.drop 1 else l4
/-- The parts of a text. -/
def splitP (l : List UInt8) : Prts :=
  ⟨l.take (sch l), Prts.auth (Prts.s1 l), Prts.path (Prts.s2 (Prts.s1 l)), Prts.query (Prts.s3 (Prts.s2 (Prts.s1 l))), Prts.frag (Prts.s4 (Prts.s3 (Prts.s2 (Prts.s1 l)))),
    Prts.hasA (Prts.s1 l), Prts.hasQ (Prts.s3 (Prts.s2 (Prts.s1 l))), Prts.hasF (Prts.s4 (Prts.s3 (Prts.s2 (Prts.s1 l))))⟩
theorem schF_lt : ∀ (l : List UInt8) (i : Nat), schF l i ≠ 0 → schF l i < i + l.length
  | [], i, h => by simp [schF] at h
  | b :: t, i, h => by
    simp only [schF] at h ⊢
    split
    · simp
    · rename_i h1
      rw [if_neg h1] at h
      split
      · rename_i h2
        rw [if_pos h2] at h
        have := schF_lt t (i + 1) h
        simp only [List.length_cons]
        omega
      · rename_i h2
        rw [if_neg h2] at h
        exact absurd rfl h
theorem sch_lt {l : List UInt8} (h : sch l ≠ 0) : sch l < l.length := by have := schF_lt l 0 h; unfold sch; omega
/-- A block of parts that the call has made, the second of two. -/
structure PR (T : TypeId) (w wx : World) (p : Prts) : Prop where
  res : wx.heap[w.heap.size]? = some (.cells P0.cells T (0, 0))
  row : wx.heap[w.heap.size + 1]? = some (.cells p.cells T (0, 0))
  below : Below w.heap.size w wx
theorem PR.start (T : TypeId) (w : World) : PR T w ((w.alloc (.cells P0.cells T)).alloc (.cells P0.cells T)) P0 where
  res := (Below.heap_alloc _ _ _ (by simp)).trans (heap_alloc_new _ _)
  row := by
    have := heap_alloc_new (w.alloc (.cells P0.cells T)) (.cells P0.cells T)
    simpa using this
  below := ((Below.refl _ _).alloc (Nat.le_refl _) _).alloc (by simp) _
theorem PR.size {T : TypeId} {w wx : World} {p : Prts} (h : PR T w wx p) : w.heap.size + 1 < wx.heap.size := lt_of_block h.row
theorem PR.later {T : TypeId} {w wx w' : World} {p : Prts} (h : PR T w wx p) (hb : Below wx.heap.size wx w') : PR T w w' p where
  res := (hb.block _ (by have := h.size; omega)).trans h.res
  row := (hb.block _ h.size).trans h.row
  below := h.below.trans (hb.mono h.below.size)
theorem PR.drewN {T : TypeId} {w wx : World} {p : Prts} (h : PR T w wx p) (n : Nat) : PR T w (wx.drewN n) p := ⟨h.res, h.row, below_drewN h.below n⟩
theorem PR.cell {T : TypeId} {w wx : World} {p : Prts} (h : PR T w wx p) (i : Nat) : wx.cell? ⟨w.heap.size + 1, i, none⟩ = p.cells[i]? := cell_of_row _ _ _ _ _ _ h.row
theorem PR.free {T : TypeId} {w wx : World} {p : Prts} (h : PR T w wx p) (i : Nat) : wx.frozen? ⟨w.heap.size + 1, i, none⟩ = false := frozen_of_row _ _ _ _ _ h.row
theorem PR.set {T : TypeId} {w wx : World} {p q : Prts} (h : PR T w wx p) (i : Nat) (v : Value) (hv : p.cells.setIfInBounds i v = q.cells) : PR T w (wx.setCell ⟨w.heap.size + 1, i, none⟩ v) q where
  res := (Below.heap_setCell _ _ _ _ (by simp)).trans h.res
  row := by rw [heap_setCell_same _ _ _ _ _ _ h.row, hv]
  below := h.below.setCell (by simp) _
theorem take_empty (l : List UInt8) (n : Nat) (h : n ≤ l.length) : (l.take n).isEmpty = (n == 0) := by
  cases n with
  | zero => simp
  | succ n => cases l with
    | nil => simp at h
    | cons b l => simp
theorem extract_ds (q : ByteArray) (n : Nat) : (q.extract n q.size).data.toList = q.data.toList.drop n := by
  rw [Lib.extract_data, List.take_of_length_le (by rw [List.length_drop, ← Lib.size_eq]; omega)]
end Go.Tk
namespace Go.Proofs.Ythdkhlkmcebfeaa
open Go.RowKit Go.Tk
theorem cutPrefix_yes (s p : ByteArray) (w : World) (h : Lib.hasPrefix s.data.toList p.data.toList = true) : Calls Try.prog 66 #[.string s, .string p] w fun e w' => e = .returned (.tuple #[.string ⟨(s.data.toList.drop p.data.toList.length).toArray⟩, .bool true]) ∧ w = w' := by
  have := Try.strings_CutPrefix s p w
  unfold Lib.trimPrefix at this
  rw [h, if_pos rfl] at this
  exact calls_same this
theorem cutPrefix_no (s p : ByteArray) (w : World) (h : Lib.hasPrefix s.data.toList p.data.toList = false) : Calls Try.prog 66 #[.string s, .string p] w fun e w' => e = .returned (.tuple #[.string s, .bool false]) ∧ w = w' := by
  have := Try.strings_CutPrefix s p w
  unfold Lib.trimPrefix at this
  rw [h, if_neg (by simp), Lib.mk_data] at this
  exact calls_same this
set_option maxHeartbeats 4000000 in
set_option maxRecDepth 100000 in
theorem split_calls (s : ByteArray) (w : World) (hs : s.size < 4294967281) :
    Calls Try.prog 48 #[.string s] w fun e w' => e = .returned (splitP s.data.toList).val ∧ Below w.heap.size w w' := by
  obtain ⟨l, hl⟩ : ∃ l, l = s.data.toList := ⟨_, rfl⟩
  have hsc := scheme_calls s (hs := by omega)
  rw [← hl] at hsc
  have hst := PR.start 34 w
  have HSC := Lib.hid hsc
  have HST := Lib.hid hst
  have HL := Lib.hid hl
  clear hsc hst hl
  go_enter Try.func48, Try.ntmps48
  go_wp2_with fail
  refine (HSC.out _).mono ?_
  rintro e w1 ⟨rfl, hb1⟩
  have h1 := HST.out.later hb1
  have c0 : w1.cell? ⟨w.heap.size + 1, 0, none⟩ = some (.string { data := #[] }) := h1.cell 0
  have f0 := h1.free 0
  have z1 := h1.size
  have H1 := Lib.hid h1
  clear hb1 h1
  go_upto_if 13 with fail
  obtain ⟨l1, hl1⟩ : ∃ l1, l1 = Prts.s1 l := ⟨_, rfl⟩
  obtain ⟨p1, hp1⟩ : ∃ p1 : Prts, p1 = { P0 with sc := l.take (sch l) } := ⟨_, rfl⟩
  have HL1 := Lib.hid hl1
  have HP1 := Lib.hid hp1
  clear hl1 hp1
  go_cut [0] (fun v wx => ∃ t : ByteArray, v = .string t ∧ t.data.toList = l1 ∧ PR 34 w wx p1)
  case first =>
    have hle := sch_le l
    have hte := take_empty l (sch l) hle
    have hP : PR 34 w (w1.setCell ⟨w.heap.size + 1, 0, none⟩ (.string ⟨(l.take (sch l)).toArray⟩)) p1 := H1.out.set 0 _ (by rw [HP1.out]; rfl)
    have HPP := Lib.hid hP
    have htl : (l.take (sch l)).length = sch l := by rw [List.length_take]; omega
    have hnl : sch l + 1 ≤ s.size ∨ sch l = 0 := by
      by_cases h : sch l = 0
      · exact .inr h
      · left; have := sch_lt h; rw [HL.out, ← Lib.size_eq] at this; rw [HL.out]; omega
    have hs1 : Prts.s1 l = if sch l = 0 then l else l.drop (sch l + 1) := rfl
    obtain ⟨tk, htk⟩ : ∃ tk, tk = l.take (sch l) := ⟨_, rfl⟩
    obtain ⟨n, hn⟩ : ∃ n, n = sch l := ⟨_, rfl⟩
    rw [← htk] at hte htl HPP ⊢
    rw [← hn] at hte htl hs1 hle hnl
    have HS1 := Lib.hid hs1
    have HTL := Lib.hid htl
    have HTE := Lib.hid hte
    have HLE := Lib.hid hle
    clear hP htl hs1 htk hn hte
    by_cases h0 : n = 0
    · have e0 : (!tk.isEmpty) = false := by rw [HTE.out, h0]; rfl
      have hfin : s.data.toList = l1 := by rw [HL1.out, HS1.out, if_pos h0, HL.out]
      have HF := Lib.hid hfin
      rw [e0]
      clear h0 e0 hfin hnl
      go_wp2_with fail
      go_meet
      exact ⟨s, rfl, HF.out, HPP.out⟩
    · have e0 : (!tk.isEmpty) = true := by rw [HTE.out]; simpa using h0
      have hz : tk.length + 1 ≤ s.size := by rw [HTL.out]; omega
      have hfin : (s.extract (tk.length + 1) s.size).data.toList = l1 := by rw [extract_ds, HL1.out, HS1.out, if_neg h0, HTL.out, HL.out]
      have HF := Lib.hid hfin
      rw [e0]
      clear h0 e0 hnl hfin
      go_wp2_with fail
      go_meet
      exact ⟨_, rfl, HF.out, HPP.out⟩
  case rest =>
    obtain ⟨t1, rfl, ht1, hp1⟩ := hcut
    have hz1 : t1.size ≤ s.size := by
      rw [Lib.size_eq t1, ht1, HL1.out]
      unfold Prts.s1
      rw [HL.out]
      split
      · rw [← Lib.size_eq]; omega
      · rw [List.length_drop, ← Lib.size_eq]; omega
    have HT1 := Lib.hid ht1
    have R1 := Lib.hid hp1
    have hcp := fun w => calls_same (Try.strings_CutPrefix t1 { data := #[47, 47] } w)
    have hA : Lib.hasPrefix t1.data.toList (ByteArray.data { data := #[47, 47] }).toList = Prts.hasA l1 := by rw [ht1]; rfl
    rw [hA] at hcp
    obtain ⟨tr, htr⟩ : ∃ tr : ByteArray, tr = ⟨(Lib.trimPrefix t1.data.toList (ByteArray.data { data := #[47, 47] }).toList).toArray⟩ := ⟨_, rfl⟩
    rw [← htr] at hcp
    obtain ⟨a1, ha1⟩ : ∃ a1, a1 = Prts.hasA l1 := ⟨_, rfl⟩
    rw [← ha1] at hcp
    have HCP := Lib.hid hcp
    have HTR := Lib.hid htr
    have HA1 := Lib.hid ha1
    clear ht1 hp1 hcp hA htr ha1
    go_upto_if 25 with (go_at_call 66; refine (HCP.out _).mono ?_; rintro e w' ⟨rfl, rfl⟩)
    obtain ⟨l2, hl2⟩ : ∃ l2, l2 = Prts.s2 l1 := ⟨_, rfl⟩
    obtain ⟨p2, hp2⟩ : ∃ p2 : Prts, p2 = { p1 with au := Prts.auth l1, ha := Prts.hasA l1 } := ⟨_, rfl⟩
    have HL2 := Lib.hid hl2
    have HP2 := Lib.hid hp2
    clear hl2 hp2
    go_cut [0] (fun v wx => ∃ t : ByteArray, v = .string t ∧ t.data.toList = l2 ∧ PR 34 w wx p2)
    case first =>
      cases a1 with
      | false =>
        have hfin : t1.data.toList = l2 := by rw [HL2.out]; unfold Prts.s2; rw [← HA1.out, if_neg (by simp), HT1.out]
        have hpp : p2 = p1 := by rw [HP2.out]; unfold Prts.auth; rw [← HA1.out, if_neg (by simp), HP1.out]; rfl
        have HPP2 := Lib.hid hpp
        have HF := Lib.hid hfin
        clear hfin hpp
        go_wp2_with fail
        go_meet
        exact ⟨t1, rfl, HF.out, by rw [HPP2.out]; exact R1.out⟩
      | true =>
        have htr : tr.data.toList = l1.drop 2 := by
          rw [HTR.out]
          have h := HA1.out
          unfold Lib.trimPrefix
          rw [show Lib.hasPrefix t1.data.toList (ByteArray.data { data := #[47, 47] }).toList = true by rw [HT1.out]; exact h.symm, if_pos rfl, HT1.out]
          rfl
        have hup := fun w => upto_calls tr { data := #[47, 63, 35] } w (by rw [Lib.size_eq, htr, List.length_drop]; have := HT1.out; rw [← this, ← Lib.size_eq]; omega) (by unfold Ascii; decide) (by decide) (by decide)
        have hl : (ByteArray.data { data := #[47, 63, 35] }).toList = [47, 63, 35] := rfl
        rw [htr, hl] at hup
        have hau : Prts.auth l1 = (l1.drop 2).take (unt (among [47, 63, 35]) (l1.drop 2)) := by unfold Prts.auth; rw [← HA1.out, if_pos rfl]
        have hs2 : Prts.s2 l1 = (l1.drop 2).drop (unt (among [47, 63, 35]) (l1.drop 2)) := by unfold Prts.s2; rw [← HA1.out, if_pos rfl]
        rw [← hau, ← hs2, ← HL2.out] at hup
        have HUP := Lib.hid hup
        have r5 := R1.out.set 5 (.bool true) (q := { p1 with ha := true }) rfl
        have R5 := Lib.hid r5
        have f5 := R1.out.free 5
        have c5 : wc.cell? ⟨w.heap.size + 1, 5, none⟩ = some (.bool p1.ha) := R1.out.cell 5
        clear htr hup hl hau hs2 r5
        go_wp2_with fail
        refine (HUP.out _).mono ?_
        rintro e w3 ⟨rfl, hb3⟩
        have r6 := R5.out.later hb3
        have f1 := r6.free 1
        have c1 : w3.cell? ⟨w.heap.size + 1, 1, none⟩ = some (strV p1.au) := r6.cell 1
        have r7 := r6.set 1 (strV (Prts.auth l1)) (q := p2) (by rw [HP2.out, ← HA1.out]; rfl)
        have R7 := Lib.hid r7
        unfold strV at c1
        clear r6 r7 hb3 f5 c5
        go_wp2_with fail
        go_meet
        exact ⟨_, rfl, rfl, R7.out⟩
    case rest =>
      obtain ⟨t2, rfl, ht2, hp2⟩ := hcut
      have hz2 : t2.size ≤ s.size := by
        have : l2.length ≤ l1.length := by
          rw [HL2.out]; unfold Prts.s2; split
          · simp only [List.length_drop]; omega
          · omega
        rw [← ht2, ← HT1.out, ← Lib.size_eq, ← Lib.size_eq] at this
        omega
      have hup := fun w => upto_calls t2 { data := #[63, 35] } w (by omega) (by unfold Ascii; decide) (by decide) (by decide)
      have hl : (ByteArray.data { data := #[63, 35] }).toList = [63, 35] := rfl
      have hpa : Prts.path l2 = t2.data.toList.take (unt (among [63, 35]) t2.data.toList) := by rw [ht2]; rfl
      obtain ⟨l3, hl3⟩ : ∃ l3, l3 = Prts.s3 l2 := ⟨_, rfl⟩
      have hs3 : l3 = t2.data.toList.drop (unt (among [63, 35]) t2.data.toList) := by rw [hl3, ht2]; rfl
      rw [hl, ← hpa, ← hs3] at hup
      obtain ⟨t3, ht3⟩ : ∃ t3 : ByteArray, t3 = ⟨l3.toArray⟩ := ⟨_, rfl⟩
      have htl3 : t3.data.toList = l3 := by rw [ht3]
      rw [← ht3] at hup
      have hl3len : l3.length ≤ l2.length := by rw [hl3]; unfold Prts.s3; rw [List.length_drop]; omega
      have hz3 : t3.size ≤ s.size := by rw [Lib.size_eq t3, htl3]; rw [← ht2, ← Lib.size_eq] at hl3len; omega
      have HUP := Lib.hid hup
      have R2 := Lib.hid hp2
      have HT3 := Lib.hid htl3
      have HL3 := Lib.hid hl3
      have hcp := fun w => calls_same (Try.strings_CutPrefix t3 { data := #[63] } w)
      have hQ : Lib.hasPrefix t3.data.toList (ByteArray.data { data := #[63] }).toList = Prts.hasQ l3 := by rw [htl3]; rfl
      rw [hQ] at hcp
      obtain ⟨tr3, htr3⟩ : ∃ tr : ByteArray, tr = ⟨(Lib.trimPrefix t3.data.toList (ByteArray.data { data := #[63] }).toList).toArray⟩ := ⟨_, rfl⟩
      rw [← htr3] at hcp
      obtain ⟨q1, hq1⟩ : ∃ q1, q1 = Prts.hasQ l3 := ⟨_, rfl⟩
      rw [← hq1] at hcp
      have HCP3 := Lib.hid hcp
      have HTR3 := Lib.hid htr3
      have HQ1 := Lib.hid hq1
      obtain ⟨p3, hp3⟩ : ∃ p3 : Prts, p3 = { p2 with pa := Prts.path l2 } := ⟨_, rfl⟩
      have HP3 := Lib.hid hp3
      clear ht2 hp2 hup hl hpa hs3 ht3 htl3 hl3len hcp hQ htr3 hq1 hp3 hl3
      go_wp2_with fail
      refine (HUP.out _).mono ?_
      rintro e w4 ⟨rfl, hb4⟩
      have r3 := R2.out.later hb4
      have f2 := r3.free 2
      have c2 : w4.cell? ⟨w.heap.size + 1, 2, none⟩ = some (strV p2.pa) := r3.cell 2
      have f6 := r3.free 6
      have c6 : w4.cell? ⟨w.heap.size + 1, 6, none⟩ = some (.bool p2.hq) := r3.cell 6
      have r4 := r3.set 2 (strV (Prts.path l2)) (q := p3) (by rw [HP3.out]; rfl)
      have R3 := Lib.hid r4
      unfold strV at c2
      clear r3 r4 hb4
      go_upto_if 44 with (go_at_call 66; refine (HCP3.out _).mono ?_; rintro e w' ⟨rfl, rfl⟩)
      obtain ⟨l4, hl4⟩ : ∃ l4, l4 = Prts.s4 l3 := ⟨_, rfl⟩
      obtain ⟨p4, hp4⟩ : ∃ p4 : Prts, p4 = { p3 with qu := Prts.query l3, hq := Prts.hasQ l3 } := ⟨_, rfl⟩
      have HL4 := Lib.hid hl4
      have HP4 := Lib.hid hp4
      clear hl4 hp4
      go_cut [0] (fun v wx => ∃ t : ByteArray, v = .string t ∧ t.data.toList = l4 ∧ PR 34 w wx p4)
      case first =>
        cases q1 with
        | false =>
          have hfin : t3.data.toList = l4 := by rw [HL4.out]; unfold Prts.s4; rw [← HQ1.out, if_neg (by simp), HT3.out]
          have hpp : p4 = p3 := by rw [HP4.out]; unfold Prts.query; rw [← HQ1.out, if_neg (by simp), HP3.out, HP2.out, HP1.out]; rfl
          have HPP2 := Lib.hid hpp
          have HF := Lib.hid hfin
          clear hfin hpp c2 f2 c6 f6
          go_wp2_with fail
          go_meet
          exact ⟨t3, rfl, HF.out, by rw [HPP2.out]; exact R3.out⟩
        | true =>
          have htr : tr3.data.toList = l3.drop 1 := by
            rw [HTR3.out]
            have h := HQ1.out
            unfold Lib.trimPrefix
            rw [show Lib.hasPrefix t3.data.toList (ByteArray.data { data := #[63] }).toList = true by rw [HT3.out]; exact h.symm, if_pos rfl, HT3.out]
            rfl
          have hup := fun w => upto_calls tr3 { data := #[35] } w (by rw [Lib.size_eq, htr, List.length_drop]; have := HT3.out; rw [← this, ← Lib.size_eq]; omega) (by unfold Ascii; decide) (by decide) (by decide)
          have hl : (ByteArray.data { data := #[35] }).toList = [35] := rfl
          rw [htr, hl] at hup
          have hau : Prts.query l3 = (l3.drop 1).take (unt (among [35]) (l3.drop 1)) := by unfold Prts.query; rw [← HQ1.out, if_pos rfl]
          have hs2 : Prts.s4 l3 = (l3.drop 1).drop (unt (among [35]) (l3.drop 1)) := by unfold Prts.s4; rw [← HQ1.out, if_pos rfl]
          rw [← hau, ← hs2, ← HL4.out] at hup
          have HUP2 := Lib.hid hup
          have r5 := R3.out.set 6 (.bool true) (q := { p3 with hq := true }) rfl
          have R5 := Lib.hid r5
          clear htr hup hl hau hs2 r5 c2 f2
          go_wp2_with fail
          refine (HUP2.out _).mono ?_
          rintro e w5 ⟨rfl, hb5⟩
          have r6 := R5.out.later hb5
          have f3 := r6.free 3
          have c3 : w5.cell? ⟨w.heap.size + 1, 3, none⟩ = some (strV p3.qu) := r6.cell 3
          have r7 := r6.set 3 (strV (Prts.query l3)) (q := p4) (by rw [HP4.out, ← HQ1.out]; rfl)
          have R7 := Lib.hid r7
          unfold strV at c3
          clear r6 r7 hb5 f6 c6
          go_wp2_with fail
          go_meet
          exact ⟨_, rfl, rfl, R7.out⟩
      case rest =>
        obtain ⟨t4, rfl, ht4, hp4⟩ := hcut
        clear c2 f2 c6 f6
        have hcp := fun w => calls_same (Try.strings_CutPrefix t4 { data := #[35] } w)
        have hF : Lib.hasPrefix t4.data.toList (ByteArray.data { data := #[35] }).toList = Prts.hasF l4 := by rw [ht4]; rfl
        have hG : Lib.trimPrefix t4.data.toList (ByteArray.data { data := #[35] }).toList = Prts.frag l4 := by rw [ht4]; rfl
        rw [hF, hG] at hcp
        obtain ⟨b4, hb4⟩ : ∃ b4, b4 = Prts.hasF l4 := ⟨_, rfl⟩
        rw [← hb4] at hcp
        have HCP4 := Lib.hid hcp
        have HB4 := Lib.hid hb4
        have f4 := hp4.free 4
        have f7 := hp4.free 7
        have c4 : wc.cell? ⟨w.heap.size + 1, 4, none⟩ = some (strV p4.fr) := hp4.cell 4
        have c7 : wc.cell? ⟨w.heap.size + 1, 7, none⟩ = some (.bool p4.hf) := hp4.cell 7
        unfold strV at c4
        obtain ⟨p5, hp5⟩ : ∃ p5 : Prts, p5 = { p4 with fr := Prts.frag l4 } := ⟨_, rfl⟩
        obtain ⟨p6, hp6⟩ : ∃ p6 : Prts, p6 = { p5 with hf := b4 } := ⟨_, rfl⟩
        have r5 := hp4.set 4 (strV (Prts.frag l4)) (q := p5) (by rw [hp5]; rfl)
        have r6 := r5.set 7 (.bool b4) (q := p6) (by rw [hp6]; rfl)
        have hp6' : p6 = splitP s.data.toList := by
          rw [hp6, hp5, HB4.out, HP4.out, HP3.out, HP2.out, HP1.out, HL4.out, HL3.out, HL2.out, HL1.out, HL.out]
          rfl
        have HP6 := Lib.hid hp6'
        have R6 := Lib.hid r6
        clear ht4 hp4 hcp hF hG hb4 hp5 hp6 r5 r6 hp6'
        go_upto_region 15 with (go_at_call 66; refine (HCP4.out _).mono ?_; rintro e w' ⟨rfl, rfl⟩)
        have r6 : PR 34 w ((wc.setCell ⟨w.heap.size + 1, 4, none⟩ (.string ⟨(Prts.frag l4).toArray⟩)).setCell ⟨w.heap.size + 1, 7, none⟩ (.bool b4)) p6 := R6.out
        generalize ((wc.setCell ⟨w.heap.size + 1, 4, none⟩ (.string ⟨(Prts.frag l4).toArray⟩)).setCell ⟨w.heap.size + 1, 7, none⟩ (.bool b4)) = w6 at r6 ⊢
        have hrow := r6.row
        have hres := r6.res
        have hbl := r6.below
        have hi8 : (Try.prog.info? 34).map (·.size) = some 8 := by kernel_rfl
        have HI8 := Lib.hid hi8
        have HROW := Lib.hid hrow
        have HRES := Lib.hid hres
        clear hrow hres hi8 r6 c4 c7 f4 f7
        go_wp2_with (first
          | (refine wpList_load_row rfl 34 _ rfl (w.heap.size + 1) rfl _ _ _ _ HROW.out Try.underlying34 rfl HI8.out ?_)
          | (refine wpList_store_row rfl 34 _ _ rfl w.heap.size _ rfl rfl _ _ HRES.out HI8.out rfl (Prts.one p6) ?_))
        have hnew := setRow_heap w6 w.heap.size _ p6.cells _ _ HRES.out
        refine bodyPost_ret (results_cell_row rfl _ _ w.heap.size _ _ _ _ rfl hnew Try.underlying34 rfl HI8.out) rfl ⟨?_, ?_⟩
        · rw [← HP6.out]; rfl
        · exact ⟨hbl.os, hbl.tape, hbl.output, by simpa using hbl.size, fun k hk => (setRow_other w6 w.heap.size k _ (by omega)).trans (hbl.block k hk)⟩
end Go.Proofs.Ythdkhlkmcebfeaa
