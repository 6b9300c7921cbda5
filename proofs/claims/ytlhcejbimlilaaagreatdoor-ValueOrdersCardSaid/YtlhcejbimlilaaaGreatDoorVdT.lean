/- VdE VdF VdT, laid as one. -/
import Derived.Test.YtlhcejbimlilaaaGreatDoorVdQ
import Derived.Test.YtlhcejbimlilaaaGreatDoorVbM
import Derived.Laws.StructEq
import Derived.Test.YtlhcejbimlilaaaGreatDoorVaY
import Derived.Laws.Tables
import Derived.Laws.Rows
set_option linter.unusedVariables false
set_option linter.unusedSimpArgs false
/- The document's double, whole. -/
namespace Go.Proofs.YtlhcejbimlilaaaGreatDoor
open Go.RowKit Go.Tk
theorem st_ne8 {s : ByteArray} {l : List UInt8} (h : s.data.toList ≠ l) : (s.toList == l) = false := by rw [Lib.toList_data]; exact beq_false_of_ne h
theorem dblP_no {l : List UInt8} (n1 : l ≠ [78, 97, 78]) (n2 : l ≠ [73, 78, 70]) (n3 : l ≠ [43, 73, 78, 70]) (n4 : l ≠ [45, 73, 78, 70]) (h : l.any isE = false) : dblP l = decE l 0 := by
  unfold dblP
  rw [if_neg n1, if_neg (by rintro (e | e); exact n2 e; exact n3 e), if_neg n4, if_pos h]
  rfl
theorem dblP_ex {l : List UInt8} (h : l.any isE = true) : dblP l = if okE (tlE l) = true then decE (hdE l) (expZ (tlE l)) else none := by
  rw [dbl_e h]
  unfold decE
  cases h1 : okP (ctA (sgnR (hdE l))) (ctB (sgnR (hdE l))) <;> cases h2 : okE (tlE l) <;> rfl
theorem e_split {l : List UInt8} (h : l.any isE = true) : ∃ c t, l = hdE l ++ c :: t ∧ isE c = true ∧ tlE l = t ∧ (hdE l).any isE = false := by
  have e := List.takeWhile_append_dropWhile (p := fun c => !isE c) (l := l)
  have hh : (hdE l).any isE = false := by
    rw [List.any_eq_false]
    intro c hc
    have := List.all_eq_true.1 (List.all_takeWhile (p := fun c => !isE c) (l := l)) c hc
    simpa using this
  cases hd : l.dropWhile (fun c => !isE c) with
  | nil =>
    rw [hd, List.append_nil] at e
    have : (hdE l).any isE = true := by unfold hdE; rw [e]; exact h
    rw [hh] at this; cases this
  | cons c t =>
    have hc : isE c = true := by
      have := List.head?_dropWhile_not (fun c => !isE c) l
      rw [hd] at this
      simpa using this
    refine ⟨c, t, ?_, hc, by unfold tlE; rw [hd]; rfl, hh⟩
    unfold hdE
    rw [← hd]; exact e.symm
theorem isE_iff (c : UInt8) : isE c = true ↔ (c.toNat : Int) = 101 ∨ (c.toNat : Int) = 69 := by
  unfold isE
  rw [Bool.or_eq_true, beq_iff_eq, beq_iff_eq]
  have e1 : (101 : UInt8).toNat = 101 := rfl
  have e2 : (69 : UInt8).toNat = 69 := rfl
  constructor
  · rintro (rfl | rfl)
    · exact .inl rfl
    · exact .inr rfl
  · rintro (h | h)
    · exact .inl (UInt8.toNat.inj (by omega))
    · exact .inr (UInt8.toNat.inj (by omega))
theorem noE_at {s : ByteArray} {k : Nat} (h : (s.data.toList.take k).any isE = false) : ∀ j, j < k → ∀ hj : j < s.size, (((s[j]).toNat : Nat) : Int) ≠ 101 ∧ (((s[j]).toNat : Nat) : Int) ≠ 69 := by
  intro j hjk hj
  have hjl : j < s.data.toList.length := by rw [← Lib.size_eq]; exact hj
  have hm : s[j] ∈ s.data.toList.take k := by
    rw [← ba_get s j hj]
    exact List.mem_take_iff_getElem.2 ⟨j, by omega, rfl⟩
  have := (List.any_eq_false.1 h) _ hm
  rw [isE_iff] at this
  omega
theorem rdouble_calls (s : ByteArray) (w : World) (hs : s.size ≤ 4000000000) : Calls Tryz.prog 73 #[.string s] w (RdD (dblP s.data.toList) w) := by
  by_cases m1 : s.data.toList = [78, 97, 78]
  · obtain rfl : s = ⟨#[78, 97, 78]⟩ := by rw [← str_mk s, m1]
    exact (rb_nan w).mono fun e' w' h => rd_of (n := nmNaN) h rfl rfl
  by_cases m2 : s.data.toList = [73, 78, 70]
  · obtain rfl : s = ⟨#[73, 78, 70]⟩ := by rw [← str_mk s, m2]
    exact (rb_inf w).mono fun e' w' h => rd_of (n := nmInf 1) h rfl rfl
  by_cases m3 : s.data.toList = [43, 73, 78, 70]
  · obtain rfl : s = ⟨#[43, 73, 78, 70]⟩ := by rw [← str_mk s, m3]
    exact (rb_pinf w).mono fun e' w' h => rd_of (n := nmInf 1) h rfl rfl
  by_cases m4 : s.data.toList = [45, 73, 78, 70]
  · obtain rfl : s = ⟨#[45, 73, 78, 70]⟩ := by rw [← str_mk s, m4]
    have e : rnV (nmInf (-1)) = .agg #[.bool false, .bool true, .bool true, .string ⟨#[]⟩, .int .i64 0] := by simp [rnV, nmInf]
    exact (rb_minf w).mono fun e' w' h => by rw [← e] at h; exact rd_of (n := nmInf (-1)) h rfl rfl
  have n1 : (s.toList == [78, 97, 78]) = false := st_ne8 m1
  have n2 : (s.toList == [73, 78, 70]) = false := st_ne8 m2
  have n3 : (s.toList == [43, 73, 78, 70]) = false := st_ne8 m3
  have n4 : (s.toList == [45, 73, 78, 70]) = false := st_ne8 m4
  have hls : s.data.toList.length = s.size := (Lib.size_eq s).symm
  cases hany : s.data.toList.any isE with
  | false =>
    have hE := dblP_no m1 m2 m3 m4 hany
    have hdc := fun w => rdecimal_calls s 0 w (by omega) (by omega) (by omega)
    rw [hE]
    obtain ⟨b1, b2, b3, D, p, hV⟩ := rnV_ex ((decE s.data.toList 0).getD nmZ)
    unfold RdD at hdc
    rw [hV] at hdc
    refine (rb_dec s w b1 b2 b3 D p _ n1 n2 n3 n4 hs (noE_at (by rw [List.take_of_length_le (by omega)]; exact hany)) hdc).mono fun e' w' h => ?_
    rw [← hV] at h
    exact h
  | true =>
    have hE := dblP_ex hany
    obtain ⟨c, t, hl, hc, htl, hno⟩ := e_split hany
    obtain ⟨k, hk⟩ : ∃ k, k = (hdE s.data.toList).length := ⟨_, rfl⟩
    have hlen : s.size = k + (t.length + 1) := by rw [← hls, hk]; conv => lhs; rw [hl]
                                                  rw [List.length_append, List.length_cons]
    have hks : k < s.size := by omega
    have htk : s.data.toList.take k = hdE s.data.toList := by
      have : (hdE s.data.toList ++ c :: t).take k = hdE s.data.toList := by rw [hk]; exact List.take_left
      rw [← hl] at this
      exact this
    have hdk : s.data.toList.drop (k + 1) = t := by
      have : (hdE s.data.toList ++ c :: t).drop (k + 1) = t := by rw [hk, List.drop_append]; simp
      rw [← hl] at this
      exact this
    have hgc : s[k] = c := by
      rw [← ba_get s k hks]
      have : s.data.toList[k]? = some c := by
        rw [hl, hk]
        simp
      exact (List.getElem?_eq_some_iff.1 this).2
    obtain ⟨X, hX⟩ : ∃ X, s.extract (k + 1) s.size = X := ⟨_, rfl⟩
    obtain ⟨H, hH⟩ : ∃ H, s.extract 0 k = H := ⟨_, rfl⟩
    have hXd : X.data.toList = tlE s.data.toList := by rw [← hX, ex_drop, htl]; exact hdk
    have hHd : H.data.toList = hdE s.data.toList := by rw [← hH, ex_take]; exact htk
    have hXs : X.size ≤ s.size := by rw [Lib.size_eq, hXd, htl]; omega
    have hHs : H.size ≤ s.size := by rw [Lib.size_eq, hHd]; omega
    rw [← hXd, ← hHd] at hE
    have hsg := fun w => rsigned_calls X w (by omega)
    obtain ⟨Y, hY⟩ : ∃ Y : ByteArray, Y = ⟨(sgnR X.data.toList).toArray⟩ := ⟨_, rfl⟩
    have hYd : Y.data.toList = sgnR X.data.toList := by rw [hY]
    have hYs : Y.size ≤ X.size := by rw [Lib.size_eq, hYd, Lib.size_eq]; exact sgR_le _
    rw [← hY] at hsg
    have hin := fun w => rinteger_calls X w (by omega)
    have hnoE := noE_at (s := s) (k := k) (by rw [htk]; exact hno)
    have hok : okE X.data.toList = ((!(sgnR X.data.toList).isEmpty && dgB (sgnR X.data.toList)) && decide (Y.size ≤ 9)) := by
      unfold okE
      rw [Lib.size_eq Y, hYd]
      cases (sgnR X.data.toList).isEmpty <;> cases decide ((sgnR X.data.toList).length ≤ 9) <;> cases dgB (sgnR X.data.toList) <;> rfl
    have hcc := (isE_iff c).1 hc
    rw [← hgc] at hcc
    cases hi : (!(sgnR X.data.toList).isEmpty && dgB (sgnR X.data.toList)) with
    | false =>
      rw [hi] at hin hok
      have hz : dblP s.data.toList = none := by rw [hE, hok]; rfl
      rw [hz]
      have fn : ∀ {e' w'}, (e' = Ending.returned (.tuple #[.agg #[.bool false, .bool false, .bool false, .string ⟨#[]⟩, .int .i64 0], .bool false]) ∧ Below w.heap.size w w') → RdD none w e' w' := fun h => by rw [← rnV_Z] at h; exact h
      rcases hcc with e | e
      · exact (rb_noe s w n1 n2 n3 n4 hs k hks X Y hX (by omega) _ e hnoE hsg hin).mono fun e' w' h => fn h
      · exact (rb_noE s w n1 n2 n3 n4 hs k hks X Y hX (by omega) _ e hnoE hsg hin).mono fun e' w' h => fn h
    | true =>
      rw [hi] at hin hok
      have hi2 := hi
      simp only [Bool.and_eq_true] at hi2
      by_cases h9 : Y.size ≤ 9
      · have hl9 : (sgnR X.data.toList).length ≤ 9 := by rw [← hYd, ← Lib.size_eq]; exact h9
        have hz : dblP s.data.toList = decE H.data.toList (expZ X.data.toList) := by rw [hE, hok, decide_eq_true h9]; rfl
        rw [hz]
        have hsm := fun w => rsmall_calls X w hi2.2 hl9
        have hnl := numN_lt _ hi2.2 hl9
        have hb : -1000000000 ≤ expZ X.data.toList ∧ expZ X.data.toList ≤ 1000000000 := by unfold expZ; split <;> omega
        have hdc := fun w => rdecimal_calls H (expZ X.data.toList) w (by omega) (by omega) (by omega)
        obtain ⟨b1, b2, b3, D, p, hV⟩ := rnV_ex ((decE H.data.toList (expZ X.data.toList)).getD nmZ)
        unfold RdD at hdc
        rw [hV] at hdc
        rcases hcc with e | e
        · refine (rb_oke s w n1 n2 n3 n4 hs k hks X Y hX (by omega) _ e (by omega) hnoE b1 b2 b3 D p _ H _ hH hsg hin hsm hdc).mono fun e' w' h => ?_
          rw [← hV] at h
          exact h
        · refine (rb_okE s w n1 n2 n3 n4 hs k hks X Y hX (by omega) _ e (by omega) hnoE b1 b2 b3 D p _ H _ hH hsg hin hsm hdc).mono fun e' w' h => ?_
          rw [← hV] at h
          exact h
      · have hz : dblP s.data.toList = none := by rw [hE, hok, decide_eq_false h9]; rfl
        rw [hz]
        have fn : ∀ {e' w'}, (e' = Ending.returned (.tuple #[.agg #[.bool false, .bool false, .bool false, .string ⟨#[]⟩, .int .i64 0], .bool false]) ∧ Below w.heap.size w w') → RdD none w e' w' := fun h => by rw [← rnV_Z] at h; exact h
        rcases hcc with e | e
        · exact (rb_longe s w n1 n2 n3 n4 hs k hks X Y hX (by omega) _ e (by omega) hnoE hsg hin).mono fun e' w' h => fn h
        · exact (rb_longE s w n1 n2 n3 n4 hs k hks X Y hX (by omega) _ e (by omega) hnoE hsg hin).mono fun e' w' h => fn h
end Go.Proofs.YtlhcejbimlilaaaGreatDoor
/- The document's texts, compare, sign, order. -/
namespace Go.Tk
open Go Go.RowKit
theorem less_cmB : ∀ (l m : List UInt8), Op.bytesLess l m = decide (cmB l m < 0)
  | [], [] => rfl
  | _ :: _, [] => rfl
  | [], _ :: _ => rfl
  | a :: x, b :: y => by
    have ih := less_cmB x y
    show (decide (a < b) || (a == b && Op.bytesLess x y)) = decide ((if a < b then (-1 : Int) else if b < a then 1 else cmB x y) < 0)
    by_cases h1 : a < b
    · simp [h1]
    · simp only [h1, decide_false, if_false, Bool.false_or]
      by_cases h2 : b < a
      · have h3 : (a == b) = false := beq_false_of_ne fun e => h1 (e ▸ h2)
        simp [h3, h2]
      · simp only [h2, if_false]
        rw [ih]
        have : a = b := by
          apply UInt8.toNat.inj
          rw [UInt8.lt_iff_toNat_lt] at h1 h2
          omega
        rw [this, beq_self_eq_true, Bool.true_and]
def sgV (g i : Bool) (D : List UInt8) : Int := if g = true then -1 else if (i || !D.isEmpty) = true then 1 else 0
/-- The document's order. -/
def orV (q i1 g1 : Bool) (D1 : List UInt8) (p1 : Int) (i2 g2 : Bool) (D2 : List UInt8) (p2 : Int) : Int :=
  if q = true then 0
  else if sgV g1 i1 D1 ≠ sgV g2 i2 D2 then cmZ (sgV g1 i1 D1) (sgV g2 i2 D2)
  else if (i1 || i2) = true then (if (i1 && g1 || i2 && !g2) = true then -1 else 1)
  else if g1 = true then -(if cmZ p1 p2 = 0 then cmB D1 D2 else cmZ p1 p2) else (if cmZ p1 p2 = 0 then cmB D1 D2 else cmZ p1 p2)
end Go.Tk
namespace Go.Proofs.YtlhcejbimlilaaaGreatDoor
open Go.RowKit Go.Tk
theorem rtexts_calls (a b : ByteArray) (w : World) : Calls Tryz.prog 41 #[.string a, .string b] w fun e w' => e = .returned (.int .i64 (cmB a.data.toList b.data.toList)) ∧ w = w' := by
  have hl := less_cmB a.data.toList b.data.toList
  have hz := cmB_zero a.data.toList b.data.toList
  have hr := cmB_rng a.data.toList b.data.toList
  obtain ⟨c, hc⟩ : ∃ c, c = cmB a.data.toList b.data.toList := ⟨_, rfl⟩
  rw [← hc] at hl hz hr ⊢
  rw [← Lib.toList_data, ← Lib.toList_data] at hl hz
  clear hc
  rcases hr with rfl | rfl | rfl
  · have hl : Op.bytesLess a.toList b.toList = true := by rw [hl]; rfl
    clear hz
    go_enter Tryz.func41, Tryz.ntmps41
    go_wp2_with fail
    go_ret
    exact ⟨rfl, rfl⟩
  · have hl : Op.bytesLess a.toList b.toList = false := by rw [hl]; rfl
    have he : (a.toList == b.toList) = true := beq_iff_eq.2 (hz.1 rfl)
    clear hz
    go_enter Tryz.func41, Tryz.ntmps41
    go_wp2_with fail
    go_ret
    exact ⟨rfl, rfl⟩
  · have hl : Op.bytesLess a.toList b.toList = false := by rw [hl]; rfl
    have he : (a.toList == b.toList) = false := beq_false_of_ne fun e => by have := hz.2 e; cases this
    clear hz
    go_enter Tryz.func41, Tryz.ntmps41
    go_wp2_with fail
    go_ret
    exact ⟨rfl, rfl⟩
theorem rcompare_calls (a b : Int) (w : World) : Calls Tryz.prog 89 #[.int .i64 a, .int .i64 b] w fun e w' => e = .returned (.int .i64 (cmZ a b)) ∧ w = w' := by
  unfold cmZ
  by_cases h1 : a < b
  · rw [if_pos h1]
    go_enter Tryz.func89, Tryz.ntmps89
    go_wp2_with fail
    go_ret
    exact ⟨rfl, rfl⟩
  · rw [if_neg h1]
    by_cases h2 : b < a
    · rw [if_pos h2]
      have h3 : b ≤ a := by omega
      clear h1
      go_enter Tryz.func89, Tryz.ntmps89
      go_wp2_with fail
      go_ret
      exact ⟨rfl, rfl⟩
    · rw [if_neg h2]
      obtain rfl : a = b := by omega
      clear h1 h2
      go_enter Tryz.func89, Tryz.ntmps89
      go_wp2_with fail
      go_ret
      exact ⟨rfl, rfl⟩
theorem rsign_calls (n i g : Bool) (D : ByteArray) (p : Int) (w : World) : Calls Tryz.prog 88 #[.agg #[.bool n, .bool i, .bool g, .string D, .int .i64 p]] w fun e w' => e = .returned (.int .i64 (sgV g i D.data.toList)) ∧ Below w.heap.size w w' := by
  have hem : (D.toList == []) = D.data.toList.isEmpty := by rw [Lib.toList_data]; cases D.data.toList <;> rfl
  unfold sgV
  rw [← hem]
  clear hem
  obtain ⟨em, hem⟩ : ∃ em, em = (D.toList == []) := ⟨_, rfl⟩
  rw [← hem]
  replace hem := hem.symm
  cases g with
  | true =>
    clear hem
    go_enter Tryz.func88, Tryz.ntmps88
    go_wp2_with fail
    go_ret
    exact ⟨rfl, (Below.refl _ _).alloc (Nat.le_refl _) _⟩
  | false =>
    cases i with
    | true =>
      clear hem
      go_enter Tryz.func88, Tryz.ntmps88
      go_wp2_with fail
      go_ret
      exact ⟨rfl, (Below.refl _ _).alloc (Nat.le_refl _) _⟩
    | false =>
      cases em with
      | true =>
        go_enter Tryz.func88, Tryz.ntmps88
        go_wp2_with fail
        go_ret
        exact ⟨rfl, (Below.refl _ _).alloc (Nat.le_refl _) _⟩
      | false =>
        go_enter Tryz.func88, Tryz.ntmps88
        go_wp2_with fail
        go_ret
        exact ⟨rfl, (Below.refl _ _).alloc (Nat.le_refl _) _⟩
def nbEq (n1 i1 g1 : Bool) (D1 : ByteArray) (p1 : Int) (n2 i2 g2 : Bool) (D2 : ByteArray) (p2 : Int) : Bool := n1 == n2 && (i1 == i2 && (g1 == g2 && (D1.data.toList == D2.data.toList && p1 == p2)))
theorem nb_fields : Tryz.prog.underlying 61 = some (.struct (Tryz.prog.fieldsOf 61)) := by kernel_rfl
theorem nb_stood : Tryz.prog.stoodInHeld 61 = false := by kernel_rfl
theorem nb_guard : Tryz.prog.eqGuardType Tryz.prog.depth 61 = false := by kernel_rfl
theorem nb_equal (n1 i1 g1 : Bool) (D1 : ByteArray) (p1 : Int) (n2 i2 g2 : Bool) (D2 : ByteArray) (p2 : Int) (w : World) : (Op.equalIn 10000 61 (.agg #[.bool n1, .bool i1, .bool g1, .string D1, .int .i64 p1]) (.agg #[.bool n2, .bool i2, .bool g2, .string D2, .int .i64 p2])).run Tryz.prog w = .ok (nbEq n1 i1 g1 D1 p1 n2 i2 g2 D2 p2) w := by
  rw [run_equalIn_agg w 9999 _ _ _ nb_fields nb_stood]
  unfold Program.fieldsOf
  rw [Tryz.underlying61]
  simp [go_sem, Op.eqFields, part]
  unfold nbEq
  rw [← Lib.toList_data, ← Lib.toList_data]
  repeat' split
  all_goals simp [*]
theorem nb_eql (n1 i1 g1 : Bool) (D1 : ByteArray) (p1 : Int) (n2 i2 g2 : Bool) (D2 : ByteArray) (p2 : Int) (w : World) : (binOp .eql 61 (.agg #[.bool n1, .bool i1, .bool g1, .string D1, .int .i64 p1]) (.agg #[.bool n2, .bool i2, .bool g2, .string D2, .int .i64 p2])).run Tryz.prog w = .ok (.bool (nbEq n1 i1 g1 D1 p1 n2 i2 g2 D2 p2)) w := by
  have := nb_equal n1 i1 g1 D1 p1 n2 i2 g2 D2 p2 w
  rw [run_eql_struct, this]; rfl
theorem nb_guarded (op : BinOp) (x y : Operand) (p q : Array Value) (w : World) : (eqGuard op 61 x y (.agg p) (.agg q)).run Tryz.prog w = .ok () w := run_eqGuard_agg w op _ x y p q nb_guard
end Go.Proofs.YtlhcejbimlilaaaGreatDoor
/- The document's Read (written by gen_vdt.py). -/
namespace Go.Proofs.YtlhcejbimlilaaaGreatDoor
open Go.RowKit Go.Tk
theorem results_rt8 {P : Program} {fn : Func} {p q : Tmp} {ty : TypeId} (h : fn.results = #[.cell p ty, .tmp q]) (tmps : Array Value) (w : World) (g : Nat) (t : TypeId) (cs : Array Value) (fr : Nat × Nat) (d : TypeDesc)
    (hp : tmps.getD p undef = .pointer (some ⟨g, 0, none⟩)) (hg : w.heap[g]? = some (.cells cs t fr))
    (hu : P.underlying ty = some d) (hd : (match d with | .struct _ | .array _ _ => true | _ => false) = true) (hi : (P.info? ty).map (·.size) = some cs.size) :
    (results fn tmps).run P w = .ok (.tuple #[.agg cs, tmps.getD q undef]) w := by
  have hp' : tmps[p]?.getD undef = .pointer (some ⟨g, 0, none⟩) := by simpa using hp
  simp [results, h, hp', asAddr, run_loadVar_row w g t ty cs fr d hg hu hd hi]
def mo1 : Mo8 := ⟨1, 1, 1, 0, 0, 0, ⟨#[]⟩, false, 0⟩
def mo0 : Mo8 := ⟨0, 0, 0, 0, 0, 0, ⟨#[]⟩, false, 0⟩
def TiOk (l : List UInt8) (m : Mo8) (zt : List UInt8) : Prop := rdT l = some (m.h * 3600 + m.mi * 60 + m.s, m.f.data.toList, zt) ∧ 0 ≤ m.h ∧ m.h ≤ 24 ∧ 0 ≤ m.mi ∧ m.mi ≤ 59 ∧ 0 ≤ m.s ∧ m.s ≤ 59 ∧ (m.h = 24 → m.mi = 0 ∧ m.s = 0 ∧ m.f.data.toList = [])
def RkDT (l : List UInt8) (m : Mo8) : Prop := ∃ r zt, rdY l = some (m.y, m.mo, m.d, r) ∧ Lib.hasPrefix r [84] = true ∧ TiOk (r.drop 1) m zt ∧ rdZ zt = some (m.z, m.o)
def RkDay (l : List UInt8) (m : Mo8) : Prop := ∃ zt, rdY l = some (m.y, m.mo, m.d, zt) ∧ rdZ zt = some (m.z, m.o) ∧ m.h = 0 ∧ m.mi = 0 ∧ m.s = 0 ∧ m.f = ⟨#[]⟩
def RkClk (l : List UInt8) (m : Mo8) : Prop := ∃ zt, TiOk l m zt ∧ rdZ zt = some (m.z, m.o) ∧ m.y = 1 ∧ m.mo = 1 ∧ m.d = 1
def RePost (ok : Bool) (P : Mo8 → Prop) (w : World) (e : Ending) (w' : World) : Prop := ∃ m : Mo8, e = .returned (.tuple #[.agg m.cells, .bool ok]) ∧ Below w.heap.size w w' ∧ (ok = true → P m)
theorem in_some (sec : Int) (p z : List UInt8) : (inP sec p z).isSome = (rdZ z).isSome := by unfold inP; cases rdZ z <;> rfl
theorem dt_none {l : List UInt8} (h : rdY l = none) : rdDT l = none ∧ rdDay l = none := by
  have : rdD l = none := by unfold rdD; rw [h]; rfl
  unfold rdDT rdDay; rw [this]; exact ⟨rfl, rfl⟩
theorem dt_some {l r : List UInt8} {y m d : Int} (h : rdY l = some (y, m, d, r)) : rdD l = some (dyP y m d, r) := by unfold rdD; rw [h]; rfl
theorem dt_pre {l r : List UInt8} {y m d : Int} (h : rdY l = some (y, m, d, r)) (hp : Lib.hasPrefix r [84] = false) : rdDT l = none := by
  unfold rdDT; rw [dt_some h]; dsimp only; rw [if_neg (by rw [hp]; simp)]
theorem dt_tim {l r : List UInt8} {y m d : Int} (h : rdY l = some (y, m, d, r)) (hp : Lib.hasPrefix r [84] = true) (ht : rdT (r.drop 1) = none) : rdDT l = none := by
  unfold rdDT; rw [dt_some h]; dsimp only; rw [if_pos hp, ht]
theorem dt_zon {l r p z : List UInt8} {y m d c : Int} (h : rdY l = some (y, m, d, r)) (hp : Lib.hasPrefix r [84] = true) (ht : rdT (r.drop 1) = some (c, p, z)) : (rdDT l).isSome = (rdZ z).isSome := by
  unfold rdDT; rw [dt_some h]; dsimp only; rw [if_pos hp, ht]; exact in_some _ _ _
theorem day_zon {l r : List UInt8} {y m d : Int} (h : rdY l = some (y, m, d, r)) : (rdDay l).isSome = (rdZ r).isSome := by
  unfold rdDay; rw [dt_some h]; exact in_some _ _ _
theorem clk_zon {l p z : List UInt8} {c : Int} (h : rdT l = some (c, p, z)) : (rdClk l).isSome = (rdZ z).isSome := by
  unfold rdClk; rw [h]; exact in_some _ _ _
theorem clk_none {l : List UInt8} (h : rdT l = none) : rdClk l = none := by unfold rdClk; rw [h]
set_option maxRecDepth 100000 in
set_option maxHeartbeats 4000000 in
theorem re_d6 (w : World) (s : ByteArray) (Q : Mo8 → Prop) (hd : ∀ x, MoAt x (w.heap.size + 1) mo1 → Calls Tryz.prog 90 #[.pointer (some ⟨w.heap.size + 1, 0, none⟩), .string s] x fun e x' => ∃ (R : ByteArray) (y mo d : Int), e = .returned (.tuple #[.string R, .bool false]) ∧ MoAt x' (w.heap.size + 1) { mo1 with y := y, mo := mo, d := d } ∧ Below (w.heap.size + 1) x x' ∧ True) :
    Calls Tryz.prog 44 #[.string s, .int .i64 6] w (RePost false Q w) := by
  have HD := Lib.hid hd
  clear hd
  have hbd : Below w.heap.size w w := Below.refl _ _
  go_enter Tryz.func44, Tryz.ntmps44
  go_upto_region 2 with fail
  obtain ⟨r0, r1, hb⟩ := box2 w (.cells mo0.cells 69) (.cells mo1.cells 69)
  simp only [mo0, mo1, Mo8.cells] at r0 r1 hb
  generalize World.alloc (World.alloc w _) _ = w0 at r0 r1 hb ⊢
  have r0' : MoAt w0 w.heap.size mo0 := r0
  have r1' : MoAt w0 (w.heap.size + 1) mo1 := r1
  have R0 := Lib.hid r0'
  have R := Lib.hid r1'
  have B := Lib.hid hb
  clear r0 r1 hb hbd r0' r1'
  go_upto_region 5 with (go_at_call 90; (with_reducible refine (HD.out _ R.out).mono ?_); rintro e' wx ⟨R1, y, mo, d, rfl, Rx, Bx, hx⟩)
  have Rb : MoAt wx w.heap.size mo0 := (Bx.block _ (Nat.lt_succ_self _)).trans R0.out
  have Bb : Below w.heap.size w wx := B.out.trans (Bx.mono (Nat.le_succ _))
  replace R0 := Lib.hid Rb
  replace B := Lib.hid Bb
  replace R := Lib.hid Rx
  clear Rb Bb Rx Bx
  clear hx
  obtain ⟨mm, hmm⟩ : ∃ mm : Mo8, mm = { mo1 with y := y, mo := mo, d := d } := ⟨_, rfl⟩
  have rb : wx.heap[w.heap.size + 1]? = some (.cells mm.cells 69 (0, 0)) := by rw [hmm]; exact R.out
  have ra : wx.heap[w.heap.size]? = some (.cells mo0.cells 69 (0, 0)) := R0.out
  have hi9 : (Tryz.prog.info? 69).map (·.size) = some mm.cells.size := by kernel_rfl
  have one : mm.cells.all (·.oneCell') = true := by simp [Mo8.cells, Value.oneCell']
  have HM := Lib.hid hmm
  have RA := Lib.hid ra
  have RB := Lib.hid rb
  have HI := Lib.hid hi9
  have ONE := Lib.hid one
  clear hmm ra rb hi9 one R R0
  go_wp2_with (first | (refine wpList_load_row rfl 69 _ rfl (w.heap.size + 1) rfl _ mm.cells _ _ RB.out Tryz.underlying69 rfl HI.out ?_) | (refine wpList_store_row rfl 69 _ _ rfl w.heap.size mm.cells rfl rfl _ _ RA.out HI.out rfl ONE.out ?_))
  have rn := setRow_heap wx w.heap.size mo0.cells mm.cells _ _ RA.out
  have hB := B.out
  refine bodyPost_ret (results_rt8 rfl _ _ w.heap.size _ _ _ _ rfl rn Tryz.underlying69 rfl HI.out) rfl ⟨mm, rfl, ⟨hB.os, hB.tape, hB.output, by simpa using hB.size, fun k hk => (setRow_other _ _ k _ (by omega)).trans (hB.block k hk)⟩, (fun h => by cases h)⟩
set_option maxRecDepth 100000 in
set_option maxHeartbeats 4000000 in
theorem re_d7 (w : World) (s : ByteArray) (Q : Mo8 → Prop) (hd : ∀ x, MoAt x (w.heap.size + 1) mo1 → Calls Tryz.prog 90 #[.pointer (some ⟨w.heap.size + 1, 0, none⟩), .string s] x fun e x' => ∃ (R : ByteArray) (y mo d : Int), e = .returned (.tuple #[.string R, .bool false]) ∧ MoAt x' (w.heap.size + 1) { mo1 with y := y, mo := mo, d := d } ∧ Below (w.heap.size + 1) x x' ∧ True) :
    Calls Tryz.prog 44 #[.string s, .int .i64 7] w (RePost false Q w) := by
  have HD := Lib.hid hd
  clear hd
  have hbd : Below w.heap.size w w := Below.refl _ _
  go_enter Tryz.func44, Tryz.ntmps44
  go_upto_region 2 with fail
  obtain ⟨r0, r1, hb⟩ := box2 w (.cells mo0.cells 69) (.cells mo1.cells 69)
  simp only [mo0, mo1, Mo8.cells] at r0 r1 hb
  generalize World.alloc (World.alloc w _) _ = w0 at r0 r1 hb ⊢
  have r0' : MoAt w0 w.heap.size mo0 := r0
  have r1' : MoAt w0 (w.heap.size + 1) mo1 := r1
  have R0 := Lib.hid r0'
  have R := Lib.hid r1'
  have B := Lib.hid hb
  clear r0 r1 hb hbd r0' r1'
  go_upto_region 5 with (go_at_call 90; (with_reducible refine (HD.out _ R.out).mono ?_); rintro e' wx ⟨R1, y, mo, d, rfl, Rx, Bx, hx⟩)
  have Rb : MoAt wx w.heap.size mo0 := (Bx.block _ (Nat.lt_succ_self _)).trans R0.out
  have Bb : Below w.heap.size w wx := B.out.trans (Bx.mono (Nat.le_succ _))
  replace R0 := Lib.hid Rb
  replace B := Lib.hid Bb
  replace R := Lib.hid Rx
  clear Rb Bb Rx Bx
  clear hx
  obtain ⟨mm, hmm⟩ : ∃ mm : Mo8, mm = { mo1 with y := y, mo := mo, d := d } := ⟨_, rfl⟩
  have rb : wx.heap[w.heap.size + 1]? = some (.cells mm.cells 69 (0, 0)) := by rw [hmm]; exact R.out
  have ra : wx.heap[w.heap.size]? = some (.cells mo0.cells 69 (0, 0)) := R0.out
  have hi9 : (Tryz.prog.info? 69).map (·.size) = some mm.cells.size := by kernel_rfl
  have one : mm.cells.all (·.oneCell') = true := by simp [Mo8.cells, Value.oneCell']
  have HM := Lib.hid hmm
  have RA := Lib.hid ra
  have RB := Lib.hid rb
  have HI := Lib.hid hi9
  have ONE := Lib.hid one
  clear hmm ra rb hi9 one R R0
  go_wp2_with (first | (refine wpList_load_row rfl 69 _ rfl (w.heap.size + 1) rfl _ mm.cells _ _ RB.out Tryz.underlying69 rfl HI.out ?_) | (refine wpList_store_row rfl 69 _ _ rfl w.heap.size mm.cells rfl rfl _ _ RA.out HI.out rfl ONE.out ?_))
  have rn := setRow_heap wx w.heap.size mo0.cells mm.cells _ _ RA.out
  have hB := B.out
  refine bodyPost_ret (results_rt8 rfl _ _ w.heap.size _ _ _ _ rfl rn Tryz.underlying69 rfl HI.out) rfl ⟨mm, rfl, ⟨hB.os, hB.tape, hB.output, by simpa using hB.size, fun k hk => (setRow_other _ _ k _ (by omega)).trans (hB.block k hk)⟩, (fun h => by cases h)⟩
set_option maxRecDepth 100000 in
set_option maxHeartbeats 4000000 in
theorem re_t0 (w : World) (s : ByteArray) (Q : Mo8 → Prop) (R1 : ByteArray) (Y1 M1 D1 : Int) (hd : ∀ x, MoAt x (w.heap.size + 1) mo1 → Calls Tryz.prog 90 #[.pointer (some ⟨w.heap.size + 1, 0, none⟩), .string s] x fun e x' => ∃ (R : ByteArray) (y mo d : Int), e = .returned (.tuple #[.string R, .bool true]) ∧ MoAt x' (w.heap.size + 1) { mo1 with y := y, mo := mo, d := d } ∧ Below (w.heap.size + 1) x x' ∧ (R = R1 ∧ y = Y1 ∧ mo = M1 ∧ d = D1)) (te : (R1.toList == []) = true) :
    Calls Tryz.prog 44 #[.string s, .int .i64 6] w (RePost false Q w) := by
  have HD := Lib.hid hd
  clear hd
  have hbd : Below w.heap.size w w := Below.refl _ _
  go_enter Tryz.func44, Tryz.ntmps44
  go_upto_region 2 with fail
  obtain ⟨r0, r1, hb⟩ := box2 w (.cells mo0.cells 69) (.cells mo1.cells 69)
  simp only [mo0, mo1, Mo8.cells] at r0 r1 hb
  generalize World.alloc (World.alloc w _) _ = w0 at r0 r1 hb ⊢
  have r0' : MoAt w0 w.heap.size mo0 := r0
  have r1' : MoAt w0 (w.heap.size + 1) mo1 := r1
  have R0 := Lib.hid r0'
  have R := Lib.hid r1'
  have B := Lib.hid hb
  clear r0 r1 hb hbd r0' r1'
  go_upto_region 5 with (go_at_call 90; (with_reducible refine (HD.out _ R.out).mono ?_); rintro e' wx ⟨R1x, y, mo, d, rfl, Rx, Bx, hx⟩)
  obtain ⟨rfl, rfl, rfl, rfl⟩ := hx
  have Rb : MoAt wx w.heap.size mo0 := (Bx.block _ (Nat.lt_succ_self _)).trans R0.out
  have Bb : Below w.heap.size w wx := B.out.trans (Bx.mono (Nat.le_succ _))
  replace R0 := Lib.hid Rb
  replace B := Lib.hid Bb
  replace R := Lib.hid Rx
  clear Rb Bb Rx Bx
  obtain ⟨mm, hmm⟩ : ∃ mm : Mo8, mm = { mo1 with y := y, mo := mo, d := d } := ⟨_, rfl⟩
  have rb : wx.heap[w.heap.size + 1]? = some (.cells mm.cells 69 (0, 0)) := by rw [hmm]; exact R.out
  have ra : wx.heap[w.heap.size]? = some (.cells mo0.cells 69 (0, 0)) := R0.out
  have hi9 : (Tryz.prog.info? 69).map (·.size) = some mm.cells.size := by kernel_rfl
  have one : mm.cells.all (·.oneCell') = true := by simp [Mo8.cells, Value.oneCell']
  have HM := Lib.hid hmm
  have RA := Lib.hid ra
  have RB := Lib.hid rb
  have HI := Lib.hid hi9
  have ONE := Lib.hid one
  clear hmm ra rb hi9 one R R0
  go_wp2_with (first | (refine wpList_load_row rfl 69 _ rfl (w.heap.size + 1) rfl _ mm.cells _ _ RB.out Tryz.underlying69 rfl HI.out ?_) | (refine wpList_store_row rfl 69 _ _ rfl w.heap.size mm.cells rfl rfl _ _ RA.out HI.out rfl ONE.out ?_))
  have rn := setRow_heap wx w.heap.size mo0.cells mm.cells _ _ RA.out
  have hB := B.out
  refine bodyPost_ret (results_rt8 rfl _ _ w.heap.size _ _ _ _ rfl rn Tryz.underlying69 rfl HI.out) rfl ⟨mm, rfl, ⟨hB.os, hB.tape, hB.output, by simpa using hB.size, fun k hk => (setRow_other _ _ k _ (by omega)).trans (hB.block k hk)⟩, (fun h => by cases h)⟩
set_option maxRecDepth 100000 in
set_option maxHeartbeats 4000000 in
theorem re_t1 (w : World) (s : ByteArray) (Q : Mo8 → Prop) (R1 : ByteArray) (Y1 M1 D1 : Int) (hd : ∀ x, MoAt x (w.heap.size + 1) mo1 → Calls Tryz.prog 90 #[.pointer (some ⟨w.heap.size + 1, 0, none⟩), .string s] x fun e x' => ∃ (R : ByteArray) (y mo d : Int), e = .returned (.tuple #[.string R, .bool true]) ∧ MoAt x' (w.heap.size + 1) { mo1 with y := y, mo := mo, d := d } ∧ Below (w.heap.size + 1) x x' ∧ (R = R1 ∧ y = Y1 ∧ mo = M1 ∧ d = D1)) (te : (R1.toList == []) = false) (k0 : 0 < R1.size) (z0 : (((R1[0]).toNat : Nat) : Int) ≠ 84) :
    Calls Tryz.prog 44 #[.string s, .int .i64 6] w (RePost false Q w) := by
  have z0b : ((((R1[0]).toNat : Nat) : Int) == 84) = false := beq_false_of_ne z0
  clear z0
  have HD := Lib.hid hd
  clear hd
  have hbd : Below w.heap.size w w := Below.refl _ _
  go_enter Tryz.func44, Tryz.ntmps44
  go_upto_region 2 with fail
  obtain ⟨r0, r1, hb⟩ := box2 w (.cells mo0.cells 69) (.cells mo1.cells 69)
  simp only [mo0, mo1, Mo8.cells] at r0 r1 hb
  generalize World.alloc (World.alloc w _) _ = w0 at r0 r1 hb ⊢
  have r0' : MoAt w0 w.heap.size mo0 := r0
  have r1' : MoAt w0 (w.heap.size + 1) mo1 := r1
  have R0 := Lib.hid r0'
  have R := Lib.hid r1'
  have B := Lib.hid hb
  clear r0 r1 hb hbd r0' r1'
  go_upto_region 5 with (go_at_call 90; (with_reducible refine (HD.out _ R.out).mono ?_); rintro e' wx ⟨R1x, y, mo, d, rfl, Rx, Bx, hx⟩)
  obtain ⟨rfl, rfl, rfl, rfl⟩ := hx
  have Rb : MoAt wx w.heap.size mo0 := (Bx.block _ (Nat.lt_succ_self _)).trans R0.out
  have Bb : Below w.heap.size w wx := B.out.trans (Bx.mono (Nat.le_succ _))
  replace R0 := Lib.hid Rb
  replace B := Lib.hid Bb
  replace R := Lib.hid Rx
  clear Rb Bb Rx Bx
  obtain ⟨mm, hmm⟩ : ∃ mm : Mo8, mm = { mo1 with y := y, mo := mo, d := d } := ⟨_, rfl⟩
  have rb : wx.heap[w.heap.size + 1]? = some (.cells mm.cells 69 (0, 0)) := by rw [hmm]; exact R.out
  have ra : wx.heap[w.heap.size]? = some (.cells mo0.cells 69 (0, 0)) := R0.out
  have hi9 : (Tryz.prog.info? 69).map (·.size) = some mm.cells.size := by kernel_rfl
  have one : mm.cells.all (·.oneCell') = true := by simp [Mo8.cells, Value.oneCell']
  have HM := Lib.hid hmm
  have RA := Lib.hid ra
  have RB := Lib.hid rb
  have HI := Lib.hid hi9
  have ONE := Lib.hid one
  clear hmm ra rb hi9 one R R0
  go_wp2_with (first | (refine wpList_load_row rfl 69 _ rfl (w.heap.size + 1) rfl _ mm.cells _ _ RB.out Tryz.underlying69 rfl HI.out ?_) | (refine wpList_store_row rfl 69 _ _ rfl w.heap.size mm.cells rfl rfl _ _ RA.out HI.out rfl ONE.out ?_))
  have rn := setRow_heap wx w.heap.size mo0.cells mm.cells _ _ RA.out
  have hB := B.out
  refine bodyPost_ret (results_rt8 rfl _ _ w.heap.size _ _ _ _ rfl rn Tryz.underlying69 rfl HI.out) rfl ⟨mm, rfl, ⟨hB.os, hB.tape, hB.output, by simpa using hB.size, fun k hk => (setRow_other _ _ k _ (by omega)).trans (hB.block k hk)⟩, (fun h => by cases h)⟩
set_option maxRecDepth 100000 in
set_option maxHeartbeats 4000000 in
theorem re_i6 (w : World) (s : ByteArray) (Q : Mo8 → Prop) (R1 : ByteArray) (Y1 M1 D1 : Int) (hd : ∀ x, MoAt x (w.heap.size + 1) mo1 → Calls Tryz.prog 90 #[.pointer (some ⟨w.heap.size + 1, 0, none⟩), .string s] x fun e x' => ∃ (R : ByteArray) (y mo d : Int), e = .returned (.tuple #[.string R, .bool true]) ∧ MoAt x' (w.heap.size + 1) { mo1 with y := y, mo := mo, d := d } ∧ Below (w.heap.size + 1) x x' ∧ (R = R1 ∧ y = Y1 ∧ mo = M1 ∧ d = D1)) (te : (R1.toList == []) = false) (k0 : 0 < R1.size) (z0 : (((R1[0]).toNat : Nat) : Int) = 84) (S2 : ByteArray) (hS2 : R1.extract 1 R1.size = S2) (ht : ∀ x, MoAt x (w.heap.size + 1) ({ mo1 with y := Y1, mo := M1, d := D1 } : Mo8) → Calls Tryz.prog 91 #[.pointer (some ⟨w.heap.size + 1, 0, none⟩), .string S2] x fun e x' => ∃ (R f : ByteArray) (h mi sc : Int), e = .returned (.tuple #[.string R, .bool false]) ∧ MoAt x' (w.heap.size + 1) { ({ mo1 with y := Y1, mo := M1, d := D1 } : Mo8) with h := h, mi := mi, s := sc, f := f } ∧ Below (w.heap.size + 1) x x' ∧ True) :
    Calls Tryz.prog 44 #[.string s, .int .i64 6] w (RePost false Q w) := by
  have HD := Lib.hid hd
  have HT := Lib.hid ht
  clear hd ht
  have hbd : Below w.heap.size w w := Below.refl _ _
  go_enter Tryz.func44, Tryz.ntmps44
  go_upto_region 2 with fail
  obtain ⟨r0, r1, hb⟩ := box2 w (.cells mo0.cells 69) (.cells mo1.cells 69)
  simp only [mo0, mo1, Mo8.cells] at r0 r1 hb
  generalize World.alloc (World.alloc w _) _ = w0 at r0 r1 hb ⊢
  have r0' : MoAt w0 w.heap.size mo0 := r0
  have r1' : MoAt w0 (w.heap.size + 1) mo1 := r1
  have R0 := Lib.hid r0'
  have R := Lib.hid r1'
  have B := Lib.hid hb
  clear r0 r1 hb hbd r0' r1'
  go_upto_region 5 with (go_at_call 90; (with_reducible refine (HD.out _ R.out).mono ?_); rintro e' wx ⟨R1x, y, mo, d, rfl, Rx, Bx, hx⟩)
  obtain ⟨rfl, rfl, rfl, rfl⟩ := hx
  have Rb : MoAt wx w.heap.size mo0 := (Bx.block _ (Nat.lt_succ_self _)).trans R0.out
  have Bb : Below w.heap.size w wx := B.out.trans (Bx.mono (Nat.le_succ _))
  replace R0 := Lib.hid Rb
  replace B := Lib.hid Bb
  replace R := Lib.hid Rx
  clear Rb Bb Rx Bx
  go_upto_region 11 with (go_at_call 91; (with_reducible refine (HT.out _ R.out).mono ?_); rintro e' wx ⟨R3, f, h, mi, sc, rfl, Rx, Bx, hx⟩)
  have Rb : MoAt wx w.heap.size mo0 := (Bx.block _ (Nat.lt_succ_self _)).trans R0.out
  have Bb : Below w.heap.size w wx := B.out.trans (Bx.mono (Nat.le_succ _))
  replace R0 := Lib.hid Rb
  replace B := Lib.hid Bb
  replace R := Lib.hid Rx
  clear Rb Bb Rx Bx
  clear hx
  obtain ⟨mm, hmm⟩ : ∃ mm : Mo8, mm = { mo1 with y := y, mo := mo, d := d, h := h, mi := mi, s := sc, f := f } := ⟨_, rfl⟩
  have rb : wx.heap[w.heap.size + 1]? = some (.cells mm.cells 69 (0, 0)) := by rw [hmm]; exact R.out
  have ra : wx.heap[w.heap.size]? = some (.cells mo0.cells 69 (0, 0)) := R0.out
  have hi9 : (Tryz.prog.info? 69).map (·.size) = some mm.cells.size := by kernel_rfl
  have one : mm.cells.all (·.oneCell') = true := by simp [Mo8.cells, Value.oneCell']
  have HM := Lib.hid hmm
  have RA := Lib.hid ra
  have RB := Lib.hid rb
  have HI := Lib.hid hi9
  have ONE := Lib.hid one
  clear hmm ra rb hi9 one R R0
  go_wp2_with (first | (refine wpList_load_row rfl 69 _ rfl (w.heap.size + 1) rfl _ mm.cells _ _ RB.out Tryz.underlying69 rfl HI.out ?_) | (refine wpList_store_row rfl 69 _ _ rfl w.heap.size mm.cells rfl rfl _ _ RA.out HI.out rfl ONE.out ?_))
  have rn := setRow_heap wx w.heap.size mo0.cells mm.cells _ _ RA.out
  have hB := B.out
  refine bodyPost_ret (results_rt8 rfl _ _ w.heap.size _ _ _ _ rfl rn Tryz.underlying69 rfl HI.out) rfl ⟨mm, rfl, ⟨hB.os, hB.tape, hB.output, by simpa using hB.size, fun k hk => (setRow_other _ _ k _ (by omega)).trans (hB.block k hk)⟩, (fun h => by cases h)⟩
set_option maxRecDepth 100000 in
set_option maxHeartbeats 4000000 in
theorem re_z6 (w : World) (s : ByteArray) (P Q : Mo8 → Prop) (ok : Bool) (R1 : ByteArray) (Y1 M1 D1 : Int) (hd : ∀ x, MoAt x (w.heap.size + 1) mo1 → Calls Tryz.prog 90 #[.pointer (some ⟨w.heap.size + 1, 0, none⟩), .string s] x fun e x' => ∃ (R : ByteArray) (y mo d : Int), e = .returned (.tuple #[.string R, .bool true]) ∧ MoAt x' (w.heap.size + 1) { mo1 with y := y, mo := mo, d := d } ∧ Below (w.heap.size + 1) x x' ∧ (R = R1 ∧ y = Y1 ∧ mo = M1 ∧ d = D1)) (te : (R1.toList == []) = false) (k0 : 0 < R1.size) (z0 : (((R1[0]).toNat : Nat) : Int) = 84) (S2 : ByteArray) (hS2 : R1.extract 1 R1.size = S2) (Z1 : ByteArray) (ht : ∀ x, MoAt x (w.heap.size + 1) ({ mo1 with y := Y1, mo := M1, d := D1 } : Mo8) → Calls Tryz.prog 91 #[.pointer (some ⟨w.heap.size + 1, 0, none⟩), .string S2] x fun e x' => ∃ (R f : ByteArray) (h mi sc : Int), e = .returned (.tuple #[.string R, .bool true]) ∧ MoAt x' (w.heap.size + 1) { ({ mo1 with y := Y1, mo := M1, d := D1 } : Mo8) with h := h, mi := mi, s := sc, f := f } ∧ Below (w.heap.size + 1) x x' ∧ (R = Z1 ∧ P { ({ mo1 with y := Y1, mo := M1, d := D1 } : Mo8) with h := h, mi := mi, s := sc, f := f })) (hz : ∀ x, ∀ m : Mo8, P m ∧ m.z = false ∧ m.o = 0 → MoAt x (w.heap.size + 1) m → Calls Tryz.prog 92 #[.pointer (some ⟨w.heap.size + 1, 0, none⟩), .string Z1] x fun e x' => ∃ (z : Bool) (o : Int), e = .returned (.bool ok) ∧ MoAt x' (w.heap.size + 1) { m with z := z, o := o } ∧ Below (w.heap.size + 1) x x' ∧ (ok = true → Q { m with z := z, o := o })) :
    Calls Tryz.prog 44 #[.string s, .int .i64 6] w (RePost ok Q w) := by
  have HD := Lib.hid hd
  have HT := Lib.hid ht
  have HZ := Lib.hid hz
  clear hd ht hz
  have hbd : Below w.heap.size w w := Below.refl _ _
  go_enter Tryz.func44, Tryz.ntmps44
  go_upto_region 2 with fail
  obtain ⟨r0, r1, hb⟩ := box2 w (.cells mo0.cells 69) (.cells mo1.cells 69)
  simp only [mo0, mo1, Mo8.cells] at r0 r1 hb
  generalize World.alloc (World.alloc w _) _ = w0 at r0 r1 hb ⊢
  have r0' : MoAt w0 w.heap.size mo0 := r0
  have r1' : MoAt w0 (w.heap.size + 1) mo1 := r1
  have R0 := Lib.hid r0'
  have R := Lib.hid r1'
  have B := Lib.hid hb
  clear r0 r1 hb hbd r0' r1'
  go_upto_region 5 with (go_at_call 90; (with_reducible refine (HD.out _ R.out).mono ?_); rintro e' wx ⟨R1x, y, mo, d, rfl, Rx, Bx, hx⟩)
  obtain ⟨rfl, rfl, rfl, rfl⟩ := hx
  have Rb : MoAt wx w.heap.size mo0 := (Bx.block _ (Nat.lt_succ_self _)).trans R0.out
  have Bb : Below w.heap.size w wx := B.out.trans (Bx.mono (Nat.le_succ _))
  replace R0 := Lib.hid Rb
  replace B := Lib.hid Bb
  replace R := Lib.hid Rx
  clear Rb Bb Rx Bx
  go_upto_region 11 with (go_at_call 91; (with_reducible refine (HT.out _ R.out).mono ?_); rintro e' wx ⟨R3, f, h, mi, sc, rfl, Rx, Bx, hx⟩)
  obtain ⟨rfl, hP⟩ := hx
  have Rb : MoAt wx w.heap.size mo0 := (Bx.block _ (Nat.lt_succ_self _)).trans R0.out
  have Bb : Below w.heap.size w wx := B.out.trans (Bx.mono (Nat.le_succ _))
  replace R0 := Lib.hid Rb
  replace B := Lib.hid Bb
  replace R := Lib.hid Rx
  clear Rb Bb Rx Bx
  go_upto_region 13 with (go_at_call 92; (with_reducible refine (HZ.out _ _ ⟨hP, rfl, rfl⟩ R.out).mono ?_); rintro e' wx ⟨z, o, rfl, Rx, Bx, hx⟩)
  have Rb : MoAt wx w.heap.size mo0 := (Bx.block _ (Nat.lt_succ_self _)).trans R0.out
  have Bb : Below w.heap.size w wx := B.out.trans (Bx.mono (Nat.le_succ _))
  replace R0 := Lib.hid Rb
  replace B := Lib.hid Bb
  replace R := Lib.hid Rx
  clear Rb Bb Rx Bx
  have HX := Lib.hid hx
  clear hx hP
  obtain ⟨mm, hmm⟩ : ∃ mm : Mo8, mm = { mo1 with y := y, mo := mo, d := d, h := h, mi := mi, s := sc, f := f, z := z, o := o } := ⟨_, rfl⟩
  have rb : wx.heap[w.heap.size + 1]? = some (.cells mm.cells 69 (0, 0)) := by rw [hmm]; exact R.out
  have ra : wx.heap[w.heap.size]? = some (.cells mo0.cells 69 (0, 0)) := R0.out
  have hi9 : (Tryz.prog.info? 69).map (·.size) = some mm.cells.size := by kernel_rfl
  have one : mm.cells.all (·.oneCell') = true := by simp [Mo8.cells, Value.oneCell']
  have HM := Lib.hid hmm
  have RA := Lib.hid ra
  have RB := Lib.hid rb
  have HI := Lib.hid hi9
  have ONE := Lib.hid one
  clear hmm ra rb hi9 one R R0
  go_wp2_with (first | (refine wpList_load_row rfl 69 _ rfl (w.heap.size + 1) rfl _ mm.cells _ _ RB.out Tryz.underlying69 rfl HI.out ?_) | (refine wpList_store_row rfl 69 _ _ rfl w.heap.size mm.cells rfl rfl _ _ RA.out HI.out rfl ONE.out ?_))
  have rn := setRow_heap wx w.heap.size mo0.cells mm.cells _ _ RA.out
  have hB := B.out
  refine bodyPost_ret (results_rt8 rfl _ _ w.heap.size _ _ _ _ rfl rn Tryz.underlying69 rfl HI.out) rfl ⟨mm, rfl, ⟨hB.os, hB.tape, hB.output, by simpa using hB.size, fun k hk => (setRow_other _ _ k _ (by omega)).trans (hB.block k hk)⟩, by rw [HM.out]; exact HX.out⟩
set_option maxRecDepth 100000 in
set_option maxHeartbeats 4000000 in
theorem re_z7 (w : World) (s : ByteArray) (Q : Mo8 → Prop) (ok : Bool) (R1 : ByteArray) (Y1 M1 D1 : Int) (hd : ∀ x, MoAt x (w.heap.size + 1) mo1 → Calls Tryz.prog 90 #[.pointer (some ⟨w.heap.size + 1, 0, none⟩), .string s] x fun e x' => ∃ (R : ByteArray) (y mo d : Int), e = .returned (.tuple #[.string R, .bool true]) ∧ MoAt x' (w.heap.size + 1) { mo1 with y := y, mo := mo, d := d } ∧ Below (w.heap.size + 1) x x' ∧ (R = R1 ∧ y = Y1 ∧ mo = M1 ∧ d = D1)) (hz : ∀ x, ∀ m : Mo8, m = ({ mo1 with y := Y1, mo := M1, d := D1 } : Mo8) → MoAt x (w.heap.size + 1) m → Calls Tryz.prog 92 #[.pointer (some ⟨w.heap.size + 1, 0, none⟩), .string R1] x fun e x' => ∃ (z : Bool) (o : Int), e = .returned (.bool ok) ∧ MoAt x' (w.heap.size + 1) { m with z := z, o := o } ∧ Below (w.heap.size + 1) x x' ∧ (ok = true → Q { m with z := z, o := o })) :
    Calls Tryz.prog 44 #[.string s, .int .i64 7] w (RePost ok Q w) := by
  have HD := Lib.hid hd
  have HZ := Lib.hid hz
  clear hd hz
  have hbd : Below w.heap.size w w := Below.refl _ _
  go_enter Tryz.func44, Tryz.ntmps44
  go_upto_region 2 with fail
  obtain ⟨r0, r1, hb⟩ := box2 w (.cells mo0.cells 69) (.cells mo1.cells 69)
  simp only [mo0, mo1, Mo8.cells] at r0 r1 hb
  generalize World.alloc (World.alloc w _) _ = w0 at r0 r1 hb ⊢
  have r0' : MoAt w0 w.heap.size mo0 := r0
  have r1' : MoAt w0 (w.heap.size + 1) mo1 := r1
  have R0 := Lib.hid r0'
  have R := Lib.hid r1'
  have B := Lib.hid hb
  clear r0 r1 hb hbd r0' r1'
  go_upto_region 5 with (go_at_call 90; (with_reducible refine (HD.out _ R.out).mono ?_); rintro e' wx ⟨R1x, y, mo, d, rfl, Rx, Bx, hx⟩)
  obtain ⟨rfl, rfl, rfl, rfl⟩ := hx
  have Rb : MoAt wx w.heap.size mo0 := (Bx.block _ (Nat.lt_succ_self _)).trans R0.out
  have Bb : Below w.heap.size w wx := B.out.trans (Bx.mono (Nat.le_succ _))
  replace R0 := Lib.hid Rb
  replace B := Lib.hid Bb
  replace R := Lib.hid Rx
  clear Rb Bb Rx Bx
  go_upto_region 13 with (go_at_call 92; (with_reducible refine (HZ.out _ _ rfl R.out).mono ?_); rintro e' wx ⟨z, o, rfl, Rx, Bx, hx⟩)
  have Rb : MoAt wx w.heap.size mo0 := (Bx.block _ (Nat.lt_succ_self _)).trans R0.out
  have Bb : Below w.heap.size w wx := B.out.trans (Bx.mono (Nat.le_succ _))
  replace R0 := Lib.hid Rb
  replace B := Lib.hid Bb
  replace R := Lib.hid Rx
  clear Rb Bb Rx Bx
  have HX := Lib.hid hx
  clear hx
  obtain ⟨mm, hmm⟩ : ∃ mm : Mo8, mm = { mo1 with y := y, mo := mo, d := d, z := z, o := o } := ⟨_, rfl⟩
  have rb : wx.heap[w.heap.size + 1]? = some (.cells mm.cells 69 (0, 0)) := by rw [hmm]; exact R.out
  have ra : wx.heap[w.heap.size]? = some (.cells mo0.cells 69 (0, 0)) := R0.out
  have hi9 : (Tryz.prog.info? 69).map (·.size) = some mm.cells.size := by kernel_rfl
  have one : mm.cells.all (·.oneCell') = true := by simp [Mo8.cells, Value.oneCell']
  have HM := Lib.hid hmm
  have RA := Lib.hid ra
  have RB := Lib.hid rb
  have HI := Lib.hid hi9
  have ONE := Lib.hid one
  clear hmm ra rb hi9 one R R0
  go_wp2_with (first | (refine wpList_load_row rfl 69 _ rfl (w.heap.size + 1) rfl _ mm.cells _ _ RB.out Tryz.underlying69 rfl HI.out ?_) | (refine wpList_store_row rfl 69 _ _ rfl w.heap.size mm.cells rfl rfl _ _ RA.out HI.out rfl ONE.out ?_))
  have rn := setRow_heap wx w.heap.size mo0.cells mm.cells _ _ RA.out
  have hB := B.out
  refine bodyPost_ret (results_rt8 rfl _ _ w.heap.size _ _ _ _ rfl rn Tryz.underlying69 rfl HI.out) rfl ⟨mm, rfl, ⟨hB.os, hB.tape, hB.output, by simpa using hB.size, fun k hk => (setRow_other _ _ k _ (by omega)).trans (hB.block k hk)⟩, by rw [HM.out]; exact HX.out⟩
set_option maxRecDepth 100000 in
set_option maxHeartbeats 4000000 in
theorem re_i8 (w : World) (s : ByteArray) (Q : Mo8 → Prop) (ht : ∀ x, MoAt x (w.heap.size + 1) mo1 → Calls Tryz.prog 91 #[.pointer (some ⟨w.heap.size + 1, 0, none⟩), .string s] x fun e x' => ∃ (R f : ByteArray) (h mi sc : Int), e = .returned (.tuple #[.string R, .bool false]) ∧ MoAt x' (w.heap.size + 1) { mo1 with h := h, mi := mi, s := sc, f := f } ∧ Below (w.heap.size + 1) x x' ∧ True) :
    Calls Tryz.prog 44 #[.string s, .int .i64 8] w (RePost false Q w) := by
  have HT := Lib.hid ht
  clear ht
  have hbd : Below w.heap.size w w := Below.refl _ _
  go_enter Tryz.func44, Tryz.ntmps44
  go_upto_region 2 with fail
  obtain ⟨r0, r1, hb⟩ := box2 w (.cells mo0.cells 69) (.cells mo1.cells 69)
  simp only [mo0, mo1, Mo8.cells] at r0 r1 hb
  generalize World.alloc (World.alloc w _) _ = w0 at r0 r1 hb ⊢
  have r0' : MoAt w0 w.heap.size mo0 := r0
  have r1' : MoAt w0 (w.heap.size + 1) mo1 := r1
  have R0 := Lib.hid r0'
  have R := Lib.hid r1'
  have B := Lib.hid hb
  clear r0 r1 hb hbd r0' r1'
  go_upto_region 11 with (go_at_call 91; (with_reducible refine (HT.out _ R.out).mono ?_); rintro e' wx ⟨R3, f, h, mi, sc, rfl, Rx, Bx, hx⟩)
  have Rb : MoAt wx w.heap.size mo0 := (Bx.block _ (Nat.lt_succ_self _)).trans R0.out
  have Bb : Below w.heap.size w wx := B.out.trans (Bx.mono (Nat.le_succ _))
  replace R0 := Lib.hid Rb
  replace B := Lib.hid Bb
  replace R := Lib.hid Rx
  clear Rb Bb Rx Bx
  clear hx
  obtain ⟨mm, hmm⟩ : ∃ mm : Mo8, mm = { mo1 with h := h, mi := mi, s := sc, f := f } := ⟨_, rfl⟩
  have rb : wx.heap[w.heap.size + 1]? = some (.cells mm.cells 69 (0, 0)) := by rw [hmm]; exact R.out
  have ra : wx.heap[w.heap.size]? = some (.cells mo0.cells 69 (0, 0)) := R0.out
  have hi9 : (Tryz.prog.info? 69).map (·.size) = some mm.cells.size := by kernel_rfl
  have one : mm.cells.all (·.oneCell') = true := by simp [Mo8.cells, Value.oneCell']
  have HM := Lib.hid hmm
  have RA := Lib.hid ra
  have RB := Lib.hid rb
  have HI := Lib.hid hi9
  have ONE := Lib.hid one
  clear hmm ra rb hi9 one R R0
  go_wp2_with (first | (refine wpList_load_row rfl 69 _ rfl (w.heap.size + 1) rfl _ mm.cells _ _ RB.out Tryz.underlying69 rfl HI.out ?_) | (refine wpList_store_row rfl 69 _ _ rfl w.heap.size mm.cells rfl rfl _ _ RA.out HI.out rfl ONE.out ?_))
  have rn := setRow_heap wx w.heap.size mo0.cells mm.cells _ _ RA.out
  have hB := B.out
  refine bodyPost_ret (results_rt8 rfl _ _ w.heap.size _ _ _ _ rfl rn Tryz.underlying69 rfl HI.out) rfl ⟨mm, rfl, ⟨hB.os, hB.tape, hB.output, by simpa using hB.size, fun k hk => (setRow_other _ _ k _ (by omega)).trans (hB.block k hk)⟩, (fun h => by cases h)⟩
set_option maxRecDepth 100000 in
set_option maxHeartbeats 4000000 in
theorem re_z8 (w : World) (s : ByteArray) (P Q : Mo8 → Prop) (ok : Bool) (Z1 : ByteArray) (ht : ∀ x, MoAt x (w.heap.size + 1) mo1 → Calls Tryz.prog 91 #[.pointer (some ⟨w.heap.size + 1, 0, none⟩), .string s] x fun e x' => ∃ (R f : ByteArray) (h mi sc : Int), e = .returned (.tuple #[.string R, .bool true]) ∧ MoAt x' (w.heap.size + 1) { mo1 with h := h, mi := mi, s := sc, f := f } ∧ Below (w.heap.size + 1) x x' ∧ (R = Z1 ∧ P { mo1 with h := h, mi := mi, s := sc, f := f })) (hz : ∀ x, ∀ m : Mo8, P m ∧ m.z = false ∧ m.o = 0 → MoAt x (w.heap.size + 1) m → Calls Tryz.prog 92 #[.pointer (some ⟨w.heap.size + 1, 0, none⟩), .string Z1] x fun e x' => ∃ (z : Bool) (o : Int), e = .returned (.bool ok) ∧ MoAt x' (w.heap.size + 1) { m with z := z, o := o } ∧ Below (w.heap.size + 1) x x' ∧ (ok = true → Q { m with z := z, o := o })) :
    Calls Tryz.prog 44 #[.string s, .int .i64 8] w (RePost ok Q w) := by
  have HT := Lib.hid ht
  have HZ := Lib.hid hz
  clear ht hz
  have hbd : Below w.heap.size w w := Below.refl _ _
  go_enter Tryz.func44, Tryz.ntmps44
  go_upto_region 2 with fail
  obtain ⟨r0, r1, hb⟩ := box2 w (.cells mo0.cells 69) (.cells mo1.cells 69)
  simp only [mo0, mo1, Mo8.cells] at r0 r1 hb
  generalize World.alloc (World.alloc w _) _ = w0 at r0 r1 hb ⊢
  have r0' : MoAt w0 w.heap.size mo0 := r0
  have r1' : MoAt w0 (w.heap.size + 1) mo1 := r1
  have R0 := Lib.hid r0'
  have R := Lib.hid r1'
  have B := Lib.hid hb
  clear r0 r1 hb hbd r0' r1'
  go_upto_region 11 with (go_at_call 91; (with_reducible refine (HT.out _ R.out).mono ?_); rintro e' wx ⟨R3, f, h, mi, sc, rfl, Rx, Bx, hx⟩)
  obtain ⟨rfl, hP⟩ := hx
  have Rb : MoAt wx w.heap.size mo0 := (Bx.block _ (Nat.lt_succ_self _)).trans R0.out
  have Bb : Below w.heap.size w wx := B.out.trans (Bx.mono (Nat.le_succ _))
  replace R0 := Lib.hid Rb
  replace B := Lib.hid Bb
  replace R := Lib.hid Rx
  clear Rb Bb Rx Bx
  go_upto_region 13 with (go_at_call 92; (with_reducible refine (HZ.out _ _ ⟨hP, rfl, rfl⟩ R.out).mono ?_); rintro e' wx ⟨z, o, rfl, Rx, Bx, hx⟩)
  have Rb : MoAt wx w.heap.size mo0 := (Bx.block _ (Nat.lt_succ_self _)).trans R0.out
  have Bb : Below w.heap.size w wx := B.out.trans (Bx.mono (Nat.le_succ _))
  replace R0 := Lib.hid Rb
  replace B := Lib.hid Bb
  replace R := Lib.hid Rx
  clear Rb Bb Rx Bx
  have HX := Lib.hid hx
  clear hx hP
  obtain ⟨mm, hmm⟩ : ∃ mm : Mo8, mm = { mo1 with h := h, mi := mi, s := sc, f := f, z := z, o := o } := ⟨_, rfl⟩
  have rb : wx.heap[w.heap.size + 1]? = some (.cells mm.cells 69 (0, 0)) := by rw [hmm]; exact R.out
  have ra : wx.heap[w.heap.size]? = some (.cells mo0.cells 69 (0, 0)) := R0.out
  have hi9 : (Tryz.prog.info? 69).map (·.size) = some mm.cells.size := by kernel_rfl
  have one : mm.cells.all (·.oneCell') = true := by simp [Mo8.cells, Value.oneCell']
  have HM := Lib.hid hmm
  have RA := Lib.hid ra
  have RB := Lib.hid rb
  have HI := Lib.hid hi9
  have ONE := Lib.hid one
  clear hmm ra rb hi9 one R R0
  go_wp2_with (first | (refine wpList_load_row rfl 69 _ rfl (w.heap.size + 1) rfl _ mm.cells _ _ RB.out Tryz.underlying69 rfl HI.out ?_) | (refine wpList_store_row rfl 69 _ _ rfl w.heap.size mm.cells rfl rfl _ _ RA.out HI.out rfl ONE.out ?_))
  have rn := setRow_heap wx w.heap.size mo0.cells mm.cells _ _ RA.out
  have hB := B.out
  refine bodyPost_ret (results_rt8 rfl _ _ w.heap.size _ _ _ _ rfl rn Tryz.underlying69 rfl HI.out) rfl ⟨mm, rfl, ⟨hB.os, hB.tape, hB.output, by simpa using hB.size, fun k hk => (setRow_other _ _ k _ (by omega)).trans (hB.block k hk)⟩, by rw [HM.out]; exact HX.out⟩
end Go.Proofs.YtlhcejbimlilaaaGreatDoor
