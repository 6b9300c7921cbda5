/- VdY ValueChecks, laid as one. -/
import Derived.Test.YtlhcejbimlilaaaGreatDoorVdZ
import Derived.Test.YtlhcejbimlilaaaGreatDoorVbD
import Derived.Test.YtlhcejbimlilaaaGreatDoorVeB
set_option linter.unusedVariables false
set_option linter.unusedSimpArgs false
/- The document's Known, Check, and ValueChecks' walk, given what hexed and base64 answer. -/
namespace Go.Proofs.YtlhcejbimlilaaaGreatDoor
open Go.RowKit Go.Tk
theorem num_calls8 (e : Int) (w : World) : Calls Tryz.prog 12 #[.int .i64 e] w fun e' w' => e' = .returned (.int .i64 e) ∧ w = w' := by
  go_enter Tryz.func12, Tryz.ntmps12
  go_wp2_with fail
  go_ret
  exact ⟨rfl, rfl⟩
theorem lkO_ne (o : Option Kd) : (lkO o != 0) = o.isSome := by
  cases o with
  | none => rfl
  | some k => cases k <;> rfl
set_option maxHeartbeats 1000000 in
theorem rknown_calls (T : ByteArray) (w : World) : Calls Tryz.prog 11 #[.string T] w fun e w' => e = .returned (.bool (kdOf T.data.toList).isSome) ∧ Below w.heap.size w w' := by
  have hk := fun w => kindOf_calls T w
  rw [← lkO_ne]
  obtain ⟨o, ho⟩ : ∃ o, o = kdOf T.data.toList := ⟨_, rfl⟩
  rw [← ho] at hk ⊢
  have hk2 : ∀ w, Calls Tryz.prog 25 #[.string T] w fun e w' => ∃ nm : ByteArray, e = .returned (.agg #[.string nm, .int .i64 (lkO o), .string ⟨(loO o).toArray⟩, .string ⟨(hiO o).toArray⟩]) ∧ Below w.heap.size w w' := hk
  obtain ⟨lk, hlk⟩ : ∃ v, v = lkO o := ⟨_, rfl⟩
  obtain ⟨lo, hlo⟩ : ∃ v : ByteArray, v = ⟨(loO o).toArray⟩ := ⟨_, rfl⟩
  obtain ⟨hi, hhi⟩ : ∃ v : ByteArray, v = ⟨(hiO o).toArray⟩ := ⟨_, rfl⟩
  simp only [← hlk, ← hlo, ← hhi] at hk2 ⊢
  have hfd : ∀ (nm : ByteArray) (w : World), (Instr.field 48 (.agg #[.string nm, .int .i64 lk, .string lo, .string hi]) 1).run Tryz.prog w = .ok (.int .i64 lk) w := fun nm w => by kernel_rfl
  have HK := Lib.hid hk2
  clear hk hk2 ho hlk hlo hhi
  go_enter Tryz.func11, Tryz.ntmps11
  go_wp2_with (go_at_call 25; (with_reducible refine (HK.out _).mono ?_); rintro e' w1 ⟨nm, rfl, hb1⟩)
  go_ret
  exact ⟨rfl, hb1⟩
abbrev HxT (s : ByteArray) : Prop := TwoB 42 #[.string s] (hexP (gtP s.data.toList)).isSome
abbrev B6T (s : ByteArray) : Prop := TwoB 43 #[.string s] (b6R s.data.toList).2
set_option maxHeartbeats 1000000 in
theorem rcheck_calls8 (T s : ByteArray) (w : World) (hx : s.size ≤ 65536 → HxT s) (hb : s.size ≤ 65536 → B6T s) (hs : s.size ≤ 9223372036854775807) :
    Calls Tryz.prog 14 #[.string T, .string s] w fun e w' => e = .returned (.int .i64 (chkE T.data.toList s.data.toList)) ∧ Below w.heap.size w w' := by
  have hl : s.data.toList.length = s.size := (Lib.size_eq s).symm
  by_cases hz : 65536 < s.size
  · have e : chkE T.data.toList s.data.toList = 2 := by unfold chkE; rw [hl, if_pos hz]
    rw [e]
    have hz' : 65536 < (s.size : Int) := by omega
    clear e hl hz hx hb
    go_enter Tryz.func14, Tryz.ntmps14
    go_wp2_with fail
    go_ret
    exact ⟨rfl, Below.refl _ _⟩
  have hz2 : s.size ≤ 65536 := by omega
  have hk := fun w => kindOf_calls T w
  have hi := fun (nm : ByteArray) w => ris_calls (t := T.data.toList) (kdOf T.data.toList) rfl nm s w hz2 (hx hz2) (hb hz2)
  have hc : chkE T.data.toList s.data.toList = if isO (kdOf T.data.toList) s.data.toList = true then 0 else 80 := by
    unfold chkE
    rw [if_neg (by rw [hl]; exact hz)]
    cases kdOf T.data.toList with
    | none => rfl
    | some k => rfl
  rw [hc]
  obtain ⟨o, ho⟩ : ∃ o, o = kdOf T.data.toList := ⟨_, rfl⟩
  rw [← ho] at hk hi ⊢
  have hk2 : ∀ w, Calls Tryz.prog 25 #[.string T] w fun e w' => ∃ nm : ByteArray, e = .returned (.agg #[.string nm, .int .i64 (lkO o), .string ⟨(loO o).toArray⟩, .string ⟨(hiO o).toArray⟩]) ∧ Below w.heap.size w w' := hk
  obtain ⟨q, hq⟩ : ∃ q, q = isO o s.data.toList := ⟨_, rfl⟩
  rw [← hq] at hi ⊢
  have hz' : (s.size : Int) ≤ 65536 := by omega
  have HK := Lib.hid hk2
  have HI := Lib.hid hi
  clear hk hk2 hi hc ho hq hx hb hl hz hz2
  cases q with
  | true =>
    rw [if_pos rfl]
    go_enter Tryz.func14, Tryz.ntmps14
    go_wp2_with (first | (go_at_call 25; (with_reducible refine (HK.out _).mono ?_); rintro e' w1 ⟨nm, rfl, hb1⟩) | (go_at_call 26; (with_reducible refine (HI.out _ _).mono ?_); rintro e' w2 ⟨rfl, hb2⟩))
    go_ret
    exact ⟨rfl, hb1.trans (hb2.mono hb1.size)⟩
  | false =>
    rw [if_neg (by simp)]
    go_enter Tryz.func14, Tryz.ntmps14
    go_wp2_with (first | (go_at_call 25; (with_reducible refine (HK.out _).mono ?_); rintro e' w1 ⟨nm, rfl, hb1⟩) | (go_at_call 26; (with_reducible refine (HI.out _ _).mono ?_); rintro e' w2 ⟨rfl, hb2⟩))
    go_ret
    exact ⟨rfl, hb1.trans (hb2.mono hb1.size)⟩
set_option maxHeartbeats 1000000 in
theorem checks_given (T s : ByteArray) (w : World) (hx : s.size ≤ 65536 → HxT s) (hb : s.size ≤ 65536 → B6T s) (hs : s.size ≤ 9223372036854775807) :
    Calls Tryz.prog 3 #[.string T, .string s] w fun e w' => e = .returned (.bool true) ∧ Below w.heap.size w w' := by
  have h1 := fun w => known_calls T w
  have h2 := fun w => rknown_calls T w
  have h3 := fun w => vcheck_calls T s w hs
  have h4 := fun w => rcheck_calls8 T s w hx hb hs
  obtain ⟨k, hk⟩ : ∃ k, k = (kdOf T.data.toList).isSome := ⟨_, rfl⟩
  obtain ⟨c, hc⟩ : ∃ k, k = chkE T.data.toList s.data.toList := ⟨_, rfl⟩
  rw [← hk] at h1 h2
  rw [← hc] at h3 h4
  have H1 := Lib.hid h1
  have H2 := Lib.hid h2
  have H3 := Lib.hid h3
  have H4 := Lib.hid h4
  have N := Lib.hid num_calls8
  clear h1 h2 h3 h4 hk hc hx hb
  cases k <;>
  (go_enter Tryz.func3, Tryz.ntmps3
   go_wp2_with (first | (go_at_call 10; (with_reducible refine (H1.out _).mono ?_); rintro e' w1 ⟨rfl, hb1⟩) | (go_at_call 11; (with_reducible refine (H2.out _).mono ?_); rintro e' w2 ⟨rfl, hb2⟩) | (go_at_call 13; (with_reducible refine (H3.out _).mono ?_); rintro e' w3 ⟨rfl, hb3⟩) | (go_at_call 12; (with_reducible refine (N.out _ _).mono ?_); rintro e' w' ⟨rfl, rfl⟩) | (go_at_call 14; (with_reducible refine (H4.out _).mono ?_); rintro e' w4 ⟨rfl, hb4⟩))
   go_ret
   have q2 := hb1.trans (hb2.mono hb1.size)
   have q3 := q2.trans (hb3.mono q2.size)
   exact ⟨rfl, q3.trans (hb4.mono q3.size)⟩)
end Go.Proofs.YtlhcejbimlilaaaGreatDoor
/- ValueChecks: the walk. -/
namespace Go.Proofs.YtlhcejbimlilaaaGreatDoor
open Go.RowKit Go.Tk
theorem checks_in (w : World) (T s : ByteArray) (hT : T.size ≤ 9223372036854775807) (hs : s.size ≤ 9223372036854775807) (hpw : Pow w) :
    Calls Tryz.prog 3 #[.string T, .string s] w fun e w' => e = .returned (.bool true) ∧ Below w.heap.size w w' :=
  checks_given T s w (fun h w => hexed_T s w h) (fun h w => base64_T s w h) hs
end Go.Proofs.YtlhcejbimlilaaaGreatDoor
