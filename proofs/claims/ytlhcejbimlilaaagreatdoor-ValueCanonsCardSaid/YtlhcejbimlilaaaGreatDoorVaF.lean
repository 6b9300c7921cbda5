/- VaK VaF, laid as one. -/
import Derived.Test.YtlhcejbimlilaaaGreatDoorVaB
import Derived.Test.YtlhcejbimlilaaaGreatDoorVaD
import Derived.Test.YtlhcejbimlilaaaGreatDoorVaC
set_option linter.unusedVariables false
set_option linter.unusedSimpArgs false
/- The program's two, readZone. -/
namespace Go.Tk
open Go Go.RowKit
def tw1 (o : Option (Int × List UInt8)) : Int := match o with | none => 0 | some x => x.1
def tw2 (o : Option (Int × List UInt8)) : List UInt8 := match o with | none => [] | some x => x.2
def twV (o : Option (Int × List UInt8)) : Value := .tuple #[.int .i64 (tw1 o), .string ⟨(tw2 o).toArray⟩, .bool o.isSome]
theorem twoP_short {l m : List UInt8} (h : l.length < 2) : twoP l m = none := by
  match l, h with
  | [], _ => rfl
  | [_], _ => rfl
theorem twoP_long {l m : List UInt8} {a b : UInt8} (h : l = a :: b :: l.drop 2) : twoP l m = if (dgB [a, b] && Lib.hasPrefix (l.drop 2) m) = true then some (((a.toNat : Int) - 48) * 10 + ((b.toNat : Int) - 48), (l.drop 2).drop m.length) else none := by
  conv => lhs; rw [h]
  rfl
theorem ba_two (s : ByteArray) (h : 1 < s.size) : s.data.toList = s[0] :: s[1] :: s.data.toList.drop 2 := by
  have h1 := ba_cons s (by omega)
  have h2 := List.drop_eq_getElem_cons (l := s.data.toList) (i := 1) (by rw [← Lib.size_eq]; exact h)
  rw [h2, ba_get s 1 h] at h1
  exact h1
theorem twoP_bd {l m : List UInt8} {n : Int} {r : List UInt8} (h : twoP l m = some (n, r)) : 0 ≤ n ∧ n ≤ 99 ∧ r.length ≤ l.length := by
  match l, h with
  | a :: b :: t, h =>
    simp only [twoP] at h
    split at h
    · rename_i hc
      simp only [Option.some.injEq, Prod.mk.injEq] at h
      obtain ⟨rfl, rfl⟩ := h
      simp only [Bool.and_eq_true, dgB_cons, decide_eq_true_eq] at hc
      rw [List.length_drop]
      simp only [List.length_cons]
      omega
    · cases h
end Go.Tk
namespace Go.Proofs.YtlhcejbimlilaaaGreatDoor
open Go.RowKit Go.Tk
theorem hasPrefix_calls (s p : ByteArray) (w : World) : Calls Tryz.prog 154 #[.string s, .string p] w fun e w' => e = .returned (.bool (Lib.hasPrefix s.data.toList p.data.toList)) ∧ w = w' :=
  (Tryz.strings_HasPrefix s p w).mono fun _ _ ⟨h, h2⟩ => ⟨h, h2.symm⟩
set_option maxHeartbeats 1000000 in
theorem two_calls (s mk : ByteArray) (w : World) (hs : s.size ≤ 4000000000) (hm : mk.size ≤ 1) :
    Calls Tryz.prog 125 #[.string s, .string mk] w fun e w' => e = .returned (twV (twoP s.data.toList mk.data.toList)) ∧ ∃ n, w' = w.drewN n := by
  have hll : s.data.toList.length = s.size := (Lib.size_eq s).symm
  by_cases h2 : 1 < s.size
  · have hcs := ba_two s h2
    have htp := twoP_long (m := mk.data.toList) hcs
    have h0 : 0 < s.size := by omega
    obtain ⟨a, ha⟩ : ∃ a, s[0] = a := ⟨_, rfl⟩
    obtain ⟨b, hb⟩ : ∃ b, s[1] = b := ⟨_, rfl⟩
    rw [ha, hb] at hcs htp
    have x1 := ex_take s 2
    have x2 := ex_drop s 2
    obtain ⟨H, hH⟩ : ∃ H, s.extract 0 2 = H := ⟨_, rfl⟩
    obtain ⟨R, hR⟩ : ∃ R, s.extract 2 s.size = R := ⟨_, rfl⟩
    rw [hH] at x1
    rw [hR] at x2
    have hHd : H.data.toList = [a, b] := by rw [x1, hcs]; rfl
    have hRd : R.data.toList = s.data.toList.drop 2 := by rw [x2]
    have hHs : H.size = 2 := by rw [Lib.size_eq, hHd]; rfl
    have hda := fun w => allDigits_calls H w (by omega)
    have hpf := fun w => hasPrefix_calls R mk w
    rw [hHd] at hda
    rw [hRd] at hpf
    have h2i : ¬ (s.size : Int) < 2 := by omega
    obtain ⟨dg, hdg⟩ : ∃ d, d = dgB [a, b] := ⟨_, rfl⟩
    obtain ⟨pf, hpf'⟩ : ∃ d, d = Lib.hasPrefix (s.data.toList.drop 2) mk.data.toList := ⟨_, rfl⟩
    rw [← hdg] at hda htp
    rw [← hpf'] at hpf htp
    have HDA := Lib.hid hda
    have HPF := Lib.hid hpf
    clear hda hpf x1 x2 hHd hRd hHs
    cases dg with
    | false =>
      rw [htp]
      clear htp hll hcs ha hb hdg hpf'
      show Calls _ _ _ _ fun e w' => e = .returned (.tuple #[.int .i64 0, .string ⟨#[]⟩, .bool false]) ∧ _
      go_enter Tryz.func125, Tryz.ntmps125
      go_wp2_with (first | (go_at_call 96; (with_reducible refine (HDA.out _).mono ?_); rintro e w' ⟨rfl, rfl⟩) | (go_at_call 154; (with_reducible refine (HPF.out _).mono ?_); rintro e w' ⟨rfl, rfl⟩))
      refine bodyPost_ret (v := .tuple #[.int .i64 0, .string ⟨#[]⟩, .bool false]) (by simp [results, Tryz.results125, go_sem]) rfl ⟨rfl, 0, rfl⟩
    | true =>
    cases pf with
    | false =>
      rw [htp]
      clear htp hll hcs ha hb hdg hpf'
      show Calls _ _ _ _ fun e w' => e = .returned (.tuple #[.int .i64 0, .string ⟨#[]⟩, .bool false]) ∧ _
      go_enter Tryz.func125, Tryz.ntmps125
      go_wp2_with (first | (go_at_call 96; (with_reducible refine (HDA.out _).mono ?_); rintro e w' ⟨rfl, rfl⟩) | (go_at_call 154; (with_reducible refine (HPF.out _).mono ?_); rintro e w' ⟨rfl, rfl⟩))
      refine bodyPost_ret (v := .tuple #[.int .i64 0, .string ⟨#[]⟩, .bool false]) (by simp [results, Tryz.results125, go_sem]) rfl ⟨rfl, 0, rfl⟩
    | true =>
      rw [htp]
      have hpl : mk.size ≤ s.size - 2 := by
        have h3 := List.IsPrefix.length_le (List.isPrefixOf_iff_prefix.1 (show List.isPrefixOf mk.data.toList (s.data.toList.drop 2) = true from hpf'.symm))
        rw [List.length_drop, ← Lib.size_eq, ← Lib.size_eq] at h3
        exact h3
      have hab := hdg.symm
      simp only [dgB_cons, Bool.and_eq_true, decide_eq_true_eq] at hab
      have x3 := ex_drop s (2 + mk.size)
      obtain ⟨T, hT⟩ : ∃ T, s.extract (2 + mk.size) s.size = T := ⟨_, rfl⟩
      rw [hT] at x3
      have hTe : T = ⟨((s.data.toList.drop 2).drop mk.data.toList.length).toArray⟩ := by rw [x3, List.drop_drop, ← Lib.size_eq mk]
      show Calls _ _ _ _ fun e w' => e = .returned (.tuple #[.int .i64 (((a.toNat : Int) - 48) * 10 + ((b.toNat : Int) - 48)), .string ⟨((s.data.toList.drop 2).drop mk.data.toList.length).toArray⟩, .bool true]) ∧ _
      rw [← hTe]
      have ga : (((s[0]'h0).toNat : Nat) : Int) = (a.toNat : Int) := by rw [ha]
      have gb : (((s[1]'h2).toNat : Nat) : Int) = (b.toNat : Int) := by rw [hb]
      obtain ⟨x, hx⟩ : ∃ x : Int, x = (a.toNat : Int) := ⟨_, rfl⟩
      obtain ⟨y, hy⟩ : ∃ y : Int, y = (b.toNat : Int) := ⟨_, rfl⟩
      rw [← hx] at ga ⊢
      rw [← hy] at gb ⊢
      have hx1 : 48 ≤ x := by omega
      have hx2 : x ≤ 57 := by omega
      have hy1 : 48 ≤ y := by omega
      have hy2 : y ≤ 57 := by omega
      have k1 : IntKind.u8.wrap (x - 48) = x - 48 := by rw [IntKind.wrap_u8]; omega
      have k2 : IntKind.u8.wrap (y - 48) = y - 48 := by rw [IntKind.wrap_u8]; omega
      have k3 : IntKind.i64.wrap (x - 48) = x - 48 := by rw [IntKind.wrap_i64]; omega
      have k4 : IntKind.i64.wrap (y - 48) = y - 48 := by rw [IntKind.wrap_i64]; omega
      have k5 : IntKind.i64.wrap ((x - 48) * 10) = (x - 48) * 10 := by rw [IntKind.wrap_i64]; omega
      have k6 : IntKind.i64.wrap ((x - 48) * 10 + (y - 48)) = (x - 48) * 10 + (y - 48) := by rw [IntKind.wrap_i64]; omega
      have k7 : IntKind.i64.wrap (2 + (mk.size : Int)) = 2 + (mk.size : Int) := by rw [IntKind.wrap_i64]; omega
      have k8 : (2 + (mk.size : Int)).toNat = 2 + mk.size := by omega
      have k9 : (2 + (mk.size : Int)) ≤ s.size := by omega
      have k10 : 0 ≤ (2 + (mk.size : Int)) := by omega
      clear htp hll hcs ha hb hdg hpf' hab x3 hTe hx hy
      go_enter Tryz.func125, Tryz.ntmps125
      go_wp2_with (first | (go_at_call 96; (with_reducible refine (HDA.out _).mono ?_); rintro e w' ⟨rfl, rfl⟩) | (go_at_call 154; (with_reducible refine (HPF.out _).mono ?_); rintro e w' ⟨rfl, rfl⟩))
      go_quiet (exact rfl)
      go_wp2_with fail
      refine bodyPost_ret (v := .tuple #[.int .i64 ((x - 48) * 10 + (y - 48)), .string T, .bool true]) (by simp [results, Tryz.results125, go_sem]) rfl ⟨rfl, _, rfl⟩
  · rw [twoP_short (by omega)]
    show Calls _ _ _ _ fun e w' => e = .returned (.tuple #[.int .i64 0, .string ⟨#[]⟩, .bool false]) ∧ _
    have h2i : (s.size : Int) < 2 := by omega
    clear hll h2
    go_enter Tryz.func125, Tryz.ntmps125
    go_wp2_with fail
    refine bodyPost_ret (v := .tuple #[.int .i64 0, .string ⟨#[]⟩, .bool false]) (by simp [results, Tryz.results125, go_sem]) rfl ⟨rfl, 0, rfl⟩
/- rz -/
def rdZ3 (c : UInt8) (h : Int) (o : Option (Int × List UInt8)) : Option (Bool × Int) := match o with
  | none => none
  | some (m, e) => if e ≠ [] ∨ 59 < m ∨ 14 < h ∨ (h = 14 ∧ 0 < m) then none else some (true, if c = 45 then -60 * h - m else 60 * h + m)
def rdZ2 (c : UInt8) (o : Option (Int × List UInt8)) : Option (Bool × Int) := match o with
  | none => none
  | some (h, r) => rdZ3 c h (twoP r [])
theorem rdZ_eq (c : UInt8) (t : List UInt8) : rdZ (c :: t) = if c = 90 ∧ t = [] then some (true, 0) else if c ≠ 43 ∧ c ≠ 45 then none else rdZ2 c (twoP t [58]) := rfl
def rzV (o : Option (Bool × Int)) : Value := match o with
  | none => .tuple #[.bool false, .int .i64 0, .bool false]
  | some x => .tuple #[.bool x.1, .int .i64 x.2, .bool true]
set_option maxHeartbeats 2000000 in
theorem readZone_calls (s : ByteArray) (w : World) (hs : s.size ≤ 4000000000) :
    Calls Tryz.prog 129 #[.string s] w fun e w' => e = .returned (rzV (rdZ s.data.toList)) ∧ ∃ n, w' = w.drewN n := by
  by_cases h0 : 0 < s.size
  · have hcs := ba_cons s h0
    obtain ⟨c, hc⟩ : ∃ c, s[0] = c := ⟨_, rfl⟩
    have x1 := ex_drop s 1
    obtain ⟨T, hT⟩ : ∃ T, s.extract 1 s.size = T := ⟨_, rfl⟩
    rw [hT] at x1
    have hTd : T.data.toList = s.data.toList.drop 1 := by rw [x1]
    have hTs : T.size ≤ 4000000000 := by rw [Lib.size_eq, hTd, List.length_drop, ← Lib.size_eq]; omega
    rw [hc, ← hTd] at hcs
    have hz := rdZ_eq c T.data.toList
    rw [← hcs] at hz
    have he0 : (s.toList == []) = false := by rw [Lib.toList_data, hcs]; rfl
    have gc : (((s[0]'h0).toNat : Nat) : Int) = (c.toNat : Int) := by rw [hc]
    have cz := UInt8.toNat_lt c
    by_cases h90 : c = 90 ∧ T.data.toList = []
    · rw [hz, if_pos h90]
      have he1 : (s.toList == [90]) = true := by rw [Lib.toList_data, hcs, h90.1, h90.2]; rfl
      clear hcs hc x1 hTd hz h90 gc cz
      show Calls _ _ _ _ fun e w' => e = .returned (.tuple #[.bool true, .int .i64 0, .bool true]) ∧ _
      go_enter Tryz.func129, Tryz.ntmps129
      go_wp2_with fail
      refine bodyPost_ret (v := .tuple #[.bool true, .int .i64 0, .bool true]) (by simp [results, Tryz.results129, go_sem]) rfl ⟨rfl, 0, rfl⟩
    rw [if_neg h90] at hz
    have he1 : (s.toList == [90]) = false := by
      rw [Lib.toList_data, hcs]
      refine beq_false_of_ne fun e => h90 ?_
      simp only [List.cons.injEq] at e
      exact e
    obtain ⟨x, hx⟩ : ∃ x : Int, x = (c.toNat : Int) := ⟨_, rfl⟩
    rw [← hx] at gc
    by_cases hsg : c ≠ 43 ∧ c ≠ 45
    · rw [hz, if_pos hsg]
      have b1 : (x != 43) = true := by rw [bne_iff_ne]; intro e; exact hsg.1 (u8_eq (n := 43) (by omega) (by omega))
      have b2 : (x != 45) = true := by rw [bne_iff_ne]; intro e; exact hsg.2 (u8_eq (n := 45) (by omega) (by omega))
      clear hcs hc x1 hTd hz h90 hsg hx
      show Calls _ _ _ _ fun e w' => e = .returned (.tuple #[.bool false, .int .i64 0, .bool false]) ∧ _
      go_enter Tryz.func129, Tryz.ntmps129
      go_wp2_with fail
      refine bodyPost_ret (v := .tuple #[.bool false, .int .i64 0, .bool false]) (by simp [results, Tryz.results129, go_sem]) rfl ⟨rfl, 0, rfl⟩
    rw [if_neg hsg] at hz
    have bsg : (x != 43) = false ∨ (x != 43) = true ∧ (x != 45) = false := by
      by_cases h : x = 43
      · left; simp [h]
      · right
        refine ⟨by simpa using h, ?_⟩
        rw [bne_eq_false_iff_eq]
        by_cases h2 : x = 45
        · exact h2
        · exact absurd ⟨fun e => h (by rw [hx, e]; rfl), fun e => h2 (by rw [hx, e]; rfl)⟩ hsg
    have b45 : (x == 45) = decide (c = 45) := by
      by_cases h : c = 45
      · rw [decide_eq_true h, beq_iff_eq, hx, h]; rfl
      · rw [decide_eq_false h, beq_eq_false_iff_ne]; intro e; exact h (u8_eq (n := 45) (by omega) (by omega))
    have ht1 := fun w => two_calls T ⟨#[58]⟩ w (by omega) (by decide)
    obtain ⟨o1, ho1⟩ : ∃ o, o = twoP T.data.toList [58] := ⟨_, rfl⟩
    have ht1 : ∀ w, Calls Tryz.prog 125 #[.string T, .string ⟨#[58]⟩] w fun e w' => e = .returned (twV o1) ∧ ∃ n, w' = w.drewN n := fun w => by rw [ho1]; exact ht1 w
    rw [← ho1] at hz
    rw [hz]
    obtain ⟨d45, hd45⟩ : ∃ d, d = decide (c = 45) := ⟨_, rfl⟩
    rw [← hd45] at b45
    have H45 := Lib.hid hd45
    have HO1 := Lib.hid ho1
    clear hcs hc x1 hTd hz h90 hsg hx ho1 hd45 cz
    cases o1 with
    | none =>
      have ht1 : ∀ w, Calls Tryz.prog 125 #[.string T, .string ⟨#[58]⟩] w fun e w' => e = .returned (.tuple #[.int .i64 0, .string ⟨#[]⟩, .bool false]) ∧ ∃ n, w' = w.drewN n := ht1
      have ht2 : ∀ w, Calls Tryz.prog 125 #[.string ⟨#[]⟩, .string ⟨#[]⟩] w fun e w' => e = .returned (.tuple #[.int .i64 0, .string ⟨#[]⟩, .bool false]) ∧ ∃ n, w' = w.drewN n := fun w => two_calls ⟨#[]⟩ ⟨#[]⟩ w (by decide) (by decide)
      have HT1 := Lib.hid ht1
      have HT2 := Lib.hid ht2
      clear ht1 ht2
      show Calls _ _ _ _ fun e w' => e = .returned (.tuple #[.bool false, .int .i64 0, .bool false]) ∧ _
      rcases bsg with b1 | ⟨b1, b2⟩
      all_goals
        go_enter Tryz.func129, Tryz.ntmps129
        go_wp2_with (first | (go_at_call 125; (with_reducible refine (HT1.out _).mono ?_); rintro e w' ⟨rfl, n1, rfl⟩) | (go_at_call 125; (with_reducible refine (HT2.out _).mono ?_); rintro e w' ⟨rfl, n2, rfl⟩))
        refine bodyPost_ret (v := .tuple #[.bool false, .int .i64 0, .bool false]) (by simp [results, Tryz.results129, go_sem]) rfl ⟨rfl, _, rfl⟩
    | some q =>
    obtain ⟨h, r⟩ := q
    have bh := twoP_bd HO1.out.symm
    obtain ⟨R, hR⟩ : ∃ R : ByteArray, R = ⟨r.toArray⟩ := ⟨_, rfl⟩
    have hRd : R.data.toList = r := by rw [hR]
    have hRs : R.size ≤ 4000000000 := by rw [Lib.size_eq, hRd]; have := bh.2.2; rw [← Lib.size_eq] at this; omega
    have ht1 : ∀ w, Calls Tryz.prog 125 #[.string T, .string ⟨#[58]⟩] w fun e w' => e = .returned (.tuple #[.int .i64 h, .string R, .bool true]) ∧ ∃ n, w' = w.drewN n := fun w => by rw [hR]; exact ht1 w
    have ht2 := fun w => two_calls R ⟨#[]⟩ w (by omega) (by decide)
    obtain ⟨o2, ho2⟩ : ∃ o, o = twoP r [] := ⟨_, rfl⟩
    have ht2 : ∀ w, Calls Tryz.prog 125 #[.string R, .string ⟨#[]⟩] w fun e w' => e = .returned (twV o2) ∧ ∃ n, w' = w.drewN n := fun w => by rw [ho2, ← hRd]; exact ht2 w
    show Calls _ _ _ _ fun e w' => e = .returned (rzV (rdZ3 c h (twoP r []))) ∧ _
    rw [← ho2]
    have HT1 := Lib.hid ht1
    have HO2 := Lib.hid ho2
    obtain ⟨bh1, bh2, _⟩ := bh
    clear ht1 hR hRd HO1 ho2
    cases o2 with
    | none =>
      have ht2 : ∀ w, Calls Tryz.prog 125 #[.string R, .string ⟨#[]⟩] w fun e w' => e = .returned (.tuple #[.int .i64 0, .string ⟨#[]⟩, .bool false]) ∧ ∃ n, w' = w.drewN n := ht2
      have HT2 := Lib.hid ht2
      clear ht2
      show Calls _ _ _ _ fun e w' => e = .returned (.tuple #[.bool false, .int .i64 0, .bool false]) ∧ _
      rcases bsg with b1 | ⟨b1, b2⟩
      all_goals
        go_enter Tryz.func129, Tryz.ntmps129
        go_wp2_with (first | (go_at_call 125; (with_reducible refine (HT1.out _).mono ?_); rintro e w' ⟨rfl, n1, rfl⟩) | (go_at_call 125; (with_reducible refine (HT2.out _).mono ?_); rintro e w' ⟨rfl, n2, rfl⟩))
        refine bodyPost_ret (v := .tuple #[.bool false, .int .i64 0, .bool false]) (by simp [results, Tryz.results129, go_sem]) rfl ⟨rfl, _, rfl⟩
    | some q =>
    obtain ⟨m, e⟩ := q
    have bm := twoP_bd HO2.out.symm
    obtain ⟨bm1, bm2, _⟩ := bm
    have hee := emp_ba e
    obtain ⟨E, hE⟩ : ∃ E : ByteArray, E = ⟨e.toArray⟩ := ⟨_, rfl⟩
    rw [← hE] at hee
    have ht2 : ∀ w, Calls Tryz.prog 125 #[.string R, .string ⟨#[]⟩] w fun e' w' => e' = .returned (.tuple #[.int .i64 m, .string E, .bool true]) ∧ ∃ n, w' = w.drewN n := fun w => by rw [hE]; exact ht2 w
    have HT2 := Lib.hid ht2
    have hr3 : rdZ3 c h (some (m, e)) = if e ≠ [] ∨ 59 < m ∨ 14 < h ∨ (h = 14 ∧ 0 < m) then none else some (true, if c = 45 then -60 * h - m else 60 * h + m) := rfl
    rw [hr3]
    clear ht2 hE HO2 hr3
    by_cases hbad : e ≠ [] ∨ 59 < m ∨ 14 < h ∨ (h = 14 ∧ 0 < m)
    · rw [if_pos hbad]
      show Calls _ _ _ _ fun e w' => e = .returned (.tuple #[.bool false, .int .i64 0, .bool false]) ∧ _
      have hb4 : (E.toList == []) = false ∨ (E.toList == []) = true ∧ (59 < m ∨ m ≤ 59 ∧ (14 < h ∨ (h = 14 ∧ 0 < m))) := by
        by_cases h1 : e = []
        · right
          refine ⟨by rw [hee, h1]; rfl, ?_⟩
          rcases hbad with q | q | q | q
          · exact absurd h1 q
          · exact .inl q
          · by_cases q2 : 59 < m
            · exact .inl q2
            · exact .inr ⟨by omega, .inl q⟩
          · by_cases q2 : 59 < m
            · exact .inl q2
            · exact .inr ⟨by omega, .inr q⟩
        · left; rw [hee]; exact decide_eq_false h1
      clear hbad hee
      rcases bsg with b1 | ⟨b1, b2⟩
      all_goals
        rcases hb4 with q1 | ⟨q1, q2 | ⟨q2, q3 | ⟨rfl, q4⟩⟩⟩
        all_goals
          go_enter Tryz.func129, Tryz.ntmps129
          go_wp2_with (first | (go_at_call 125; (with_reducible refine (HT1.out _).mono ?_); rintro e w' ⟨rfl, n1, rfl⟩) | (go_at_call 125; (with_reducible refine (HT2.out _).mono ?_); rintro e w' ⟨rfl, n2, rfl⟩))
          refine bodyPost_ret (v := .tuple #[.bool false, .int .i64 0, .bool false]) (by simp [results, Tryz.results129, go_sem]) rfl ⟨rfl, _, rfl⟩
    · rw [if_neg hbad]
      have q1 : (E.toList == []) = true := by rw [hee, decide_eq_true_eq]; by_cases h1 : e = []; exact h1; exact absurd (.inl h1) hbad
      have q2 : m ≤ 59 := by omega
      have q3 : h ≤ 14 := by omega
      have q4 : h < 14 ∨ h = 14 ∧ m = 0 := by
        by_cases h1 : h < 14
        · exact .inl h1
        · refine .inr ⟨by omega, ?_⟩
          by_cases h2 : 0 < m
          · exact absurd (.inr (.inr (.inr ⟨by omega, h2⟩))) hbad
          · omega
      have hv : (if c = 45 then -60 * h - m else 60 * h + m) = if d45 = true then -60 * h - m else 60 * h + m := by rw [H45.out]; simp
      rw [hv]
      clear hbad hee hv
      cases d45 with
      | true =>
        show Calls _ _ _ _ fun e w' => e = .returned (.tuple #[.bool true, .int .i64 (-60 * h - m), .bool true]) ∧ _
        rcases bsg with b1 | ⟨b1, b2⟩
        all_goals
          rcases q4 with q4 | ⟨rfl, rfl⟩
          all_goals
            go_enter Tryz.func129, Tryz.ntmps129
            go_wp2_with (first | (go_at_call 125; (with_reducible refine (HT1.out _).mono ?_); rintro e w' ⟨rfl, n1, rfl⟩) | (go_at_call 125; (with_reducible refine (HT2.out _).mono ?_); rintro e w' ⟨rfl, n2, rfl⟩))
            refine bodyPost_ret (v := .tuple #[.bool true, .int .i64 (-60 * _ - _), .bool true]) (by simp [results, Tryz.results129, go_sem]) rfl ⟨rfl, _, rfl⟩
      | false =>
        show Calls _ _ _ _ fun e w' => e = .returned (.tuple #[.bool true, .int .i64 (60 * h + m), .bool true]) ∧ _
        rcases bsg with b1 | ⟨b1, b2⟩
        all_goals
          rcases q4 with q4 | ⟨rfl, rfl⟩
          all_goals
            go_enter Tryz.func129, Tryz.ntmps129
            go_wp2_with (first | (go_at_call 125; (with_reducible refine (HT1.out _).mono ?_); rintro e w' ⟨rfl, n1, rfl⟩) | (go_at_call 125; (with_reducible refine (HT2.out _).mono ?_); rintro e w' ⟨rfl, n2, rfl⟩))
            refine bodyPost_ret (v := .tuple #[.bool true, .int .i64 (60 * _ + _), .bool true]) (by simp [results, Tryz.results129, go_sem]) rfl ⟨rfl, _, rfl⟩
  · have hn := ba_nil s h0
    have e0 : rdZ s.data.toList = some (false, 0) := by rw [hn]; rfl
    have he0 : (s.toList == []) = true := by rw [Lib.toList_data, hn]; rfl
    rw [e0]
    clear hn e0 h0
    show Calls _ _ _ _ fun e w' => e = .returned (.tuple #[.bool false, .int .i64 0, .bool true]) ∧ _
    go_enter Tryz.func129, Tryz.ntmps129
    go_wp2_with fail
    refine bodyPost_ret (v := .tuple #[.bool false, .int .i64 0, .bool true]) (by simp [results, Tryz.results129, go_sem]) rfl ⟨rfl, 0, rfl⟩
end Go.Proofs.YtlhcejbimlilaaaGreatDoor
/- The program's texts of numbers: whole, plain, scientific. -/
namespace Go.Tk
open Go Go.RowKit
theorem ba_app (a b : List UInt8) : (⟨a.toArray⟩ : ByteArray) ++ ⟨b.toArray⟩ = ⟨(a ++ b).toArray⟩ := by
  apply ByteArray.ext; rw [ByteArray.data_append]; simp
theorem ba_app' (a b : ByteArray) : a ++ b = ⟨(a.data.toList ++ b.data.toList).toArray⟩ := by
  apply ByteArray.ext; rw [ByteArray.data_append]; simp
theorem ba_ext {a b : ByteArray} (h : a.data.toList = b.data.toList) : a = b := by
  rw [← str_mk a, ← str_mk b, h]
theorem rs_str {a b : ByteArray} (h : a = b) : Ending.returned (.string a) = .returned (.string b) := by rw [h]
theorem rs_str2 {a b : ByteArray} {x : Bool} (h : a = b) : Ending.returned (.tuple #[.string a, .bool x]) = .returned (.tuple #[.string b, .bool x]) := by rw [h]
theorem sz_mk (l : List UInt8) : (⟨l.toArray⟩ : ByteArray).size = l.length := by simp [ByteArray.size]
end Go.Tk
namespace Go.Proofs.YtlhcejbimlilaaaGreatDoor
open Go.RowKit Go.Tk
set_option maxHeartbeats 1000000 in
theorem whole_calls (n : Nm) (w : World) (hn : n.dg.length ≤ 1000000000) (hp : n.dg ≠ [] → (n.dg.length : Int) ≤ n.pw ∧ n.pw ≤ 4000000000) :
    Calls Tryz.prog 106 #[n.val] w fun e w' => e = .returned (.string ⟨(whN n).toArray⟩) ∧ Below w.heap.size w w' := by
  obtain ⟨bl, dg, pw, inf, nan⟩ := n
  unfold Nm.val
  dsimp only at hn hp ⊢
  by_cases hd : dg = []
  · subst hd
    have e : whN ⟨bl, [], pw, inf, nan⟩ = [48] := rfl
    rw [e]
    clear e hp
    go_enter Tryz.func106, Tryz.ntmps106
    go_wp2_with fail
    go_ret
    exact ⟨rfl, (Below.refl _ _).alloc (Nat.le_refl _) _⟩
  · obtain ⟨hp1, hp2⟩ := hp hd
    have e : whN ⟨bl, dg, pw, inf, nan⟩ = (if bl = true then [45] else []) ++ (dg ++ rep0 (pw - dg.length).toNat) := by unfold whN; rw [if_neg hd]
    have he := emp_ba dg
    rw [decide_eq_false hd] at he
    have hs := sz_mk dg
    have hrp := fun w => rep_calls (pw - dg.length) w (by omega) (by omega)
    have hrs : (rep0 (pw - dg.length).toNat).length = (pw - dg.length).toNat := by simp [rep0]
    obtain ⟨R, hR⟩ : ∃ R : ByteArray, R = ⟨(rep0 (pw - dg.length).toNat).toArray⟩ := ⟨_, rfl⟩
    have hRs : R.size ≤ 4000000000 := by rw [hR, sz_mk, hrs]; omega
    obtain ⟨D, hD⟩ : ∃ D : ByteArray, D = ⟨dg.toArray⟩ := ⟨_, rfl⟩
    rw [← hR] at hrp
    rw [← hs] at hrp hp1 hn
    rw [← hD] at he hs hrp hp1 hn ⊢
    have hDR : (D ++ R).size ≤ 8000000000 := by rw [ByteArray.size_append]; omega
    obtain ⟨T, hT⟩ : ∃ T : ByteArray, T = ⟨(whN ⟨bl, dg, pw, inf, nan⟩).toArray⟩ := ⟨_, rfl⟩
    have hfin : (if bl = true then (⟨#[45]⟩ : ByteArray) ++ (D ++ R) else D ++ R) = T := by
      rw [hT, e, hD, hR, ba_app]
      cases bl with
      | false => rfl
      | true => exact ba_app [45] _
    rw [← hT]
    have HRP := Lib.hid hrp
    have HF := Lib.hid hfin
    clear e hd hrp hrs hR hD hs hfin hp hT
    go_enter Tryz.func106, Tryz.ntmps106
    go_upto_region 3 with fail
    obtain ⟨r1, hb⟩ := box1 w (.cells #[.bool bl, .string D, .int .i64 pw, .int .i64 inf, .bool nan] 55)
    generalize World.alloc w _ = w2 at r1 hb ⊢
    have hz := lt_of_block r1
    have q1 := Lw.row r1
    have x0 := fun x => (row_cell (q1 x) 0)
    have x1 := fun x => (row_cell (q1 x) 1)
    have x2 := fun x => (row_cell (q1 x) 2)
    simp at x0 x1 x2
    clear q1 r1
    have hw1 : IntKind.i64.wrap (pw - (D.size : Int)) = pw - (D.size : Int) := by rw [IntKind.wrap_i64]; omega
    refine wp_region_lw (by kernel_rfl) (by kernel_rfl) ?_
    repeat (go_big_quiet_step (first | exact rfl | (go_at_call 135; with_reducible exact lw_call (HRP.out _))))
    refine wpQuiet_nil ?_
    rintro ⟨w3, hb3⟩
    have u0 := x0 ⟨w3, hb3⟩
    dsimp only at u0 ⊢
    have hb4 := hb.trans (hb3.mono hb.size)
    clear x0 x1 x2 hb hb3 hw1
    cases bl with
    | false =>
      go_wp2_with fail
      go_ret
      exact ⟨rs_str HF.out, hb4⟩
    | true =>
      go_wp2_with fail
      go_ret
      exact ⟨rs_str HF.out, hb4⟩
set_option maxHeartbeats 2000000 in
theorem plain_calls (n : Nm) (w : World) (hn : n.dg.length ≤ 1000000000) (hp : -1000000000 ≤ n.pw ∧ n.pw ≤ 4000000000) :
    Calls Tryz.prog 98 #[n.val] w fun e w' => e = .returned (.string ⟨(plN n).toArray⟩) ∧ Below w.heap.size w w' := by
  obtain ⟨bl, dg, pw, inf, nan⟩ := n
  obtain ⟨hp1, hp2⟩ := hp
  unfold Nm.val
  dsimp only at hn hp1 hp2 ⊢
  obtain ⟨T, hT⟩ : ∃ T : ByteArray, T = ⟨(plN ⟨bl, dg, pw, inf, nan⟩).toArray⟩ := ⟨_, rfl⟩
  rw [← hT]
  have hs := sz_mk dg
  have he := emp_ba dg
  obtain ⟨D, hD⟩ : ∃ D : ByteArray, D = ⟨dg.toArray⟩ := ⟨_, rfl⟩
  rw [← hD] at hs he ⊢
  have hDd : D.data.toList = dg := by rw [hD]
  by_cases hd : dg = []
  · rw [decide_eq_true hd] at he
    have hfin : (if bl = true then (⟨#[45, 48, 46, 48]⟩ : ByteArray) else ⟨#[48, 46, 48]⟩) = T := by
      rw [hT]; subst hd; cases bl <;> rfl
    have HF := Lib.hid hfin
    clear hT hD hs hd hDd hfin
    cases bl with
    | false =>
      go_enter Tryz.func98, Tryz.ntmps98
      go_wp2_with fail
      go_ret
      exact ⟨rs_str HF.out, (Below.refl _ _).alloc (Nat.le_refl _) _⟩
    | true =>
      go_enter Tryz.func98, Tryz.ntmps98
      go_wp2_with fail
      go_ret
      exact ⟨rs_str HF.out, (Below.refl _ _).alloc (Nat.le_refl _) _⟩
  rw [decide_eq_false hd] at he
  have hTd : T.data.toList = (if bl = true then [45] else []) ++ plW ⟨bl, dg, pw, inf, nan⟩ ++ [46] ++ plF ⟨bl, dg, pw, inf, nan⟩ := by rw [hT]; rfl
  by_cases hp0 : pw ≤ 0
  · have e1 : plW ⟨bl, dg, pw, inf, nan⟩ = [48] := by unfold plW; rw [if_neg hd, if_pos hp0]
    have e2 : plF ⟨bl, dg, pw, inf, nan⟩ = rep0 (-pw).toNat ++ dg := by unfold plF; rw [if_neg hd, if_pos hp0]
    have hrp := fun w => rep_calls (-pw) w (by omega) (by omega)
    have hrs : (rep0 (-pw).toNat).length = (-pw).toNat := by simp [rep0]
    obtain ⟨R, hR⟩ : ∃ R : ByteArray, R = ⟨(rep0 (-pw).toNat).toArray⟩ := ⟨_, rfl⟩
    have hRs : R.size ≤ 4000000000 := by rw [hR, sz_mk, hrs]; omega
    have hRd : R.data.toList = rep0 (-pw).toNat := by rw [hR]
    rw [← hR] at hrp
    have hDz : D.size ≤ 1000000000 := by rw [hs]; exact hn
    have hDR : (R ++ D).size ≤ 8000000000 := by rw [ByteArray.size_append]; omega
    have hfin : T.data.toList = (if bl = true then [45] else []) ++ [48] ++ [46] ++ (R ++ D).data.toList := by rw [hTd, e1, e2, cat_ba, hRd, hDd]
    obtain ⟨P, hP⟩ : ∃ P, R ++ D = P := ⟨_, rfl⟩
    rw [hP] at hfin hDR
    have hPd : P.data.toList = P.data.toList := rfl
    have HRP := Lib.hid hrp
    have HF := Lib.hid hfin
    have HPd := Lib.hid hPd
    have hw1 : IntKind.i64.wrap (-pw) = -pw := by rw [IntKind.wrap_i64]; omega
    clear hT hTd hd e1 e2 hrp hrs hR hRd hfin hs hD hDd hn hPd
    go_enter Tryz.func98, Tryz.ntmps98
    go_upto_region 5 with fail
    obtain ⟨r1, hb⟩ := box1 w (.cells #[.bool bl, .string D, .int .i64 pw, .int .i64 inf, .bool nan] 55)
    generalize World.alloc w _ = w2 at r1 hb ⊢
    have hz := lt_of_block r1
    have q1 := Lw.row r1
    have x0 := fun x => (row_cell (q1 x) 0)
    have x1 := fun x => (row_cell (q1 x) 1)
    have x2 := fun x => (row_cell (q1 x) 2)
    simp at x0 x1 x2
    clear q1 r1
    refine wp_region_lw (by kernel_rfl) (by kernel_rfl) ?_
    repeat (go_big_quiet_step (first | exact rfl | (go_at_call 135; with_reducible exact lw_call (HRP.out _))))
    refine wpQuiet_nil ?_
    rintro ⟨w3, hb3⟩
    have u0 := x0 ⟨w3, hb3⟩
    dsimp only at u0 ⊢
    have hb4 := hb.trans (hb3.mono hb.size)
    clear x0 x1 x2 hb hb3
    clear hw1
    cases bl with
    | false =>
      go_wp2_with fail
      go_ret
      exact ⟨rs_str (ba_ext (by rw [HF.out]; simp [HPd.out])), hb4⟩
    | true =>
      go_wp2_with fail
      go_ret
      exact ⟨rs_str (ba_ext (by rw [HF.out]; simp [HPd.out])), hb4⟩
  by_cases hpl : (dg.length : Int) ≤ pw
  · have e1 : plW ⟨bl, dg, pw, inf, nan⟩ = dg ++ rep0 (pw - dg.length).toNat := by unfold plW; rw [if_neg hd, if_neg hp0, if_pos hpl]
    have e2 : plF ⟨bl, dg, pw, inf, nan⟩ = [48] := by unfold plF; rw [if_neg hd, if_neg hp0, if_pos hpl]
    have hrp := fun w => rep_calls (pw - dg.length) w (by omega) (by omega)
    have hrs : (rep0 (pw - dg.length).toNat).length = (pw - dg.length).toNat := by simp [rep0]
    obtain ⟨R, hR⟩ : ∃ R : ByteArray, R = ⟨(rep0 (pw - dg.length).toNat).toArray⟩ := ⟨_, rfl⟩
    have hRs : R.size ≤ 4000000000 := by rw [hR, sz_mk, hrs]; omega
    have hRd : R.data.toList = rep0 (pw - dg.length).toNat := by rw [hR]
    rw [← hR] at hrp
    have hDz : D.size ≤ 1000000000 := by rw [hs]; exact hn
    have hDR : (D ++ R).size ≤ 8000000000 := by rw [ByteArray.size_append]; omega
    have hfin : T.data.toList = (if bl = true then [45] else []) ++ (D ++ R).data.toList ++ [46] ++ [48] := by rw [hTd, e1, e2, cat_ba, hRd, hDd]
    obtain ⟨P, hP⟩ : ∃ P, D ++ R = P := ⟨_, rfl⟩
    rw [hP] at hfin hDR
    rw [← hs] at hrp hpl
    have hPd : P.data.toList = P.data.toList := rfl
    have HRP := Lib.hid hrp
    have HF := Lib.hid hfin
    have HPd := Lib.hid hPd
    have hw1 : IntKind.i64.wrap (pw - (D.size : Int)) = pw - (D.size : Int) := by rw [IntKind.wrap_i64]; omega
    clear hT hTd hd e1 e2 hrp hrs hR hRd hfin hs hD hDd hn hPd
    go_enter Tryz.func98, Tryz.ntmps98
    go_upto_region 7 with fail
    obtain ⟨r1, hb⟩ := box1 w (.cells #[.bool bl, .string D, .int .i64 pw, .int .i64 inf, .bool nan] 55)
    generalize World.alloc w _ = w2 at r1 hb ⊢
    have hz := lt_of_block r1
    have q1 := Lw.row r1
    have x0 := fun x => (row_cell (q1 x) 0)
    have x1 := fun x => (row_cell (q1 x) 1)
    have x2 := fun x => (row_cell (q1 x) 2)
    simp at x0 x1 x2
    clear q1 r1
    refine wp_region_lw (by kernel_rfl) (by kernel_rfl) ?_
    repeat (go_big_quiet_step (first | exact rfl | (go_at_call 135; with_reducible exact lw_call (HRP.out _))))
    refine wpQuiet_nil ?_
    rintro ⟨w3, hb3⟩
    have u0 := x0 ⟨w3, hb3⟩
    dsimp only at u0 ⊢
    have hb4 := hb.trans (hb3.mono hb.size)
    clear x0 x1 x2 hb hb3
    clear hw1
    cases bl with
    | false =>
      go_wp2_with fail
      go_ret
      exact ⟨rs_str (ba_ext (by rw [HF.out]; simp [HPd.out])), hb4⟩
    | true =>
      go_wp2_with fail
      go_ret
      exact ⟨rs_str (ba_ext (by rw [HF.out]; simp [HPd.out])), hb4⟩
  · have e1 : plW ⟨bl, dg, pw, inf, nan⟩ = dg.take pw.toNat := by unfold plW; rw [if_neg hd, if_neg hp0, if_neg hpl]
    have e2 : plF ⟨bl, dg, pw, inf, nan⟩ = dg.drop pw.toNat := by unfold plF; rw [if_neg hd, if_neg hp0, if_neg hpl]
    obtain ⟨k, rfl⟩ : ∃ k : Nat, pw = k := ⟨pw.toNat, by omega⟩
    rw [Int.toNat_natCast] at e1 e2
    have hDz : D.size ≤ 1000000000 := by rw [hs]; exact hn
    have hkD : k < D.size := by rw [hs]; omega
    have x5 := ex_take D k
    have x6 := ex_drop D k
    rw [hDd] at x5 x6
    obtain ⟨W, hW⟩ : ∃ W, D.extract 0 k = W := ⟨_, rfl⟩
    obtain ⟨P, hP⟩ : ∃ P, D.extract k D.size = P := ⟨_, rfl⟩
    rw [hW] at x5
    rw [hP] at x6
    have hWd : W.data.toList = dg.take k := by rw [x5]
    have hPd : P.data.toList = dg.drop k := by rw [x6]
    have hWs : W.size ≤ 1000000000 := by rw [Lib.size_eq, hWd, List.length_take]; omega
    have hPs : P.size ≤ 1000000000 := by rw [Lib.size_eq, hPd, List.length_drop]; omega
    have hfin : T.data.toList = (if bl = true then [45] else []) ++ W.data.toList ++ [46] ++ P.data.toList := by rw [hTd, e1, e2, hWd, hPd]
    have HF := Lib.hid hfin
    have HPd := Lib.hid hPd
    have hk0 : 0 < k := by omega
    clear hT hTd hd e1 e2 hfin hs hD hDd hn hPd hWd x5 x6 hp0 hpl
    go_enter Tryz.func98, Tryz.ntmps98
    go_upto_region 2 with fail
    obtain ⟨r1, hb⟩ := box1 w (.cells #[.bool bl, .string D, .int .i64 (k : Nat), .int .i64 inf, .bool nan] 55)
    generalize World.alloc w _ = w2 at r1 hb ⊢
    have hz := lt_of_block r1
    have q1 := Lw.row r1
    have x0 := fun x => (row_cell (q1 x) 0)
    have x1 := fun x => (row_cell (q1 x) 1)
    have x2 := fun x => (row_cell (q1 x) 2)
    simp at x0 x1 x2
    clear q1 r1
    refine wp_region_lw (by kernel_rfl) (by kernel_rfl) ?_
    repeat (go_big_quiet_step (exact rfl))
    refine wpQuiet_nil ?_
    rintro ⟨w3, hb3⟩
    have u0 := x0 ⟨w3, hb3⟩
    dsimp only at u0 ⊢
    have hb4 := hb.trans (hb3.mono hb.size)
    clear x0 x1 x2 hb hb3
    cases bl with
    | false =>
      go_wp2_with fail
      go_ret
      exact ⟨rs_str (ba_ext (by rw [HF.out]; simp)), hb4⟩
    | true =>
      go_wp2_with fail
      go_ret
      exact ⟨rs_str (ba_ext (by rw [HF.out]; simp)), hb4⟩
set_option maxHeartbeats 2000000 in
theorem scientific_calls (n : Nm) (w : World) (hpw : Pow w) (hn : n.dg.length ≤ 1000000000) (hp : -4000000000 ≤ n.pw ∧ n.pw ≤ 4000000000) :
    Calls Tryz.prog 101 #[n.val] w fun e w' => e = .returned (.tuple #[.string ⟨((scN n).getD []).toArray⟩, .bool (scN n).isSome]) ∧ Below w.heap.size w w' := by
  obtain ⟨bl, dg, pw, inf, nan⟩ := n
  obtain ⟨hp1, hp2⟩ := hp
  unfold Nm.val
  dsimp only at hn hp1 hp2 ⊢
  have hsc : scN ⟨bl, dg, pw, inf, nan⟩ = if nan = true then some [78, 97, 78] else if 0 < inf then some [73, 78, 70] else if inf < 0 then some [45, 73, 78, 70] else if dg = [] then some [48, 46, 48, 69, 48] else if 999999999 < pw - 1 ∨ pw - 1 < -999999999 then none else some ((if bl = true then [45] else []) ++ (dg.take 1 ++ [46] ++ (if dg.drop 1 = [] then [48] else dg.drop 1) ++ [69] ++ Lib.itoa (pw - 1))) := rfl
  rw [hsc]
  have hs := sz_mk dg
  have he := emp_ba dg
  obtain ⟨D, hD⟩ : ∃ D : ByteArray, D = ⟨dg.toArray⟩ := ⟨_, rfl⟩
  rw [← hD] at hs he ⊢
  have hDd : D.data.toList = dg := by rw [hD]
  cases nan with
  | true =>
    rw [if_pos rfl]
    clear hsc hs he hD hDd
    go_enter Tryz.func101, Tryz.ntmps101
    go_wp2_with fail
    go_ret2
    exact ⟨rfl, (Below.refl _ _).alloc (Nat.le_refl _) _⟩
  | false =>
  rw [if_neg (by simp)]
  by_cases hi1 : 0 < inf
  · rw [if_pos hi1]
    clear hsc hs he hD hDd
    go_enter Tryz.func101, Tryz.ntmps101
    go_wp2_with fail
    go_ret2
    exact ⟨rfl, (Below.refl _ _).alloc (Nat.le_refl _) _⟩
  rw [if_neg hi1]
  by_cases hi2 : inf < 0
  · rw [if_pos hi2]
    clear hsc hs he hD hDd
    go_enter Tryz.func101, Tryz.ntmps101
    go_wp2_with fail
    go_ret2
    exact ⟨rfl, (Below.refl _ _).alloc (Nat.le_refl _) _⟩
  rw [if_neg hi2]
  obtain rfl : inf = 0 := by omega
  by_cases hd : dg = []
  · rw [if_pos hd]
    rw [decide_eq_true hd] at he
    clear hsc hs hD hDd hi1 hi2 hd
    go_enter Tryz.func101, Tryz.ntmps101
    go_wp2_with fail
    go_ret2
    exact ⟨rfl, (Below.refl _ _).alloc (Nat.le_refl _) _⟩
  rw [if_neg hd]
  rw [decide_eq_false hd] at he
  have hd0 : 0 < D.size := by rw [hs]; exact List.length_pos_iff.2 hd
  have hDz : D.size ≤ 1000000000 := by rw [hs]; exact hn
  have x5 := ex_take D 1
  have x6 := ex_drop D 1
  rw [hDd] at x5 x6
  obtain ⟨W, hW⟩ : ∃ W, D.extract 0 1 = W := ⟨_, rfl⟩
  obtain ⟨P, hP⟩ : ∃ P, D.extract 1 D.size = P := ⟨_, rfl⟩
  rw [hW] at x5
  rw [hP] at x6
  have hWd : W.data.toList = dg.take 1 := by rw [x5]
  have hPd : P.data.toList = dg.drop 1 := by rw [x6]
  have hWs : W.size ≤ 1 := by rw [Lib.size_eq, hWd, List.length_take]; omega
  have hPs : P.size ≤ 1000000000 := by rw [Lib.size_eq, hPd, List.length_drop]; omega
  have hPe : (P.toList == []) = decide (dg.drop 1 = []) := by rw [x6]; exact emp_ba _
  by_cases hr1 : 999999999 < pw - 1
  · rw [if_pos (.inl hr1)]
    clear hsc hD hDd hi1 hi2 hd hs x5 x6 hWd hPd hn
    cases hdd : decide (dg.drop 1 = []) with
    | true =>
      rw [hdd] at hPe
      clear hdd
      go_enter Tryz.func101, Tryz.ntmps101
      go_wp2_with fail
      go_ret2
      exact ⟨rfl, (Below.refl _ _).alloc (Nat.le_refl _) _⟩
    | false =>
      rw [hdd] at hPe
      clear hdd
      go_enter Tryz.func101, Tryz.ntmps101
      go_wp2_with fail
      go_ret2
      exact ⟨rfl, (Below.refl _ _).alloc (Nat.le_refl _) _⟩
  by_cases hr2 : pw - 1 < -999999999
  · rw [if_pos (.inr hr2)]
    clear hsc hD hDd hi1 hi2 hd hs x5 x6 hWd hPd hn
    cases hdd : decide (dg.drop 1 = []) with
    | true =>
      rw [hdd] at hPe
      clear hdd
      go_enter Tryz.func101, Tryz.ntmps101
      go_wp2_with fail
      go_ret2
      exact ⟨rfl, (Below.refl _ _).alloc (Nat.le_refl _) _⟩
    | false =>
      rw [hdd] at hPe
      clear hdd
      go_enter Tryz.func101, Tryz.ntmps101
      go_wp2_with fail
      go_ret2
      exact ⟨rfl, (Below.refl _ _).alloc (Nat.le_refl _) _⟩
  rw [if_neg (by omega)]
  have hit := fun w (h : Pow w) => itoa_calls (pw - 1) w h (by omega) (by omega)
  have hil := Lib.itoa_length_le (pw - 1) (by omega) (by omega)
  obtain ⟨I, hI⟩ : ∃ I : ByteArray, I = ⟨(Lib.itoa (pw - 1)).toArray⟩ := ⟨_, rfl⟩
  rw [← hI] at hit
  have hId : I.data.toList = Lib.itoa (pw - 1) := by rw [hI]
  have hIs : I.size ≤ 21 := by rw [Lib.size_eq, hId]; exact hil
  obtain ⟨T, hT⟩ : ∃ T : ByteArray, T = ⟨((if bl = true then [45] else []) ++ (dg.take 1 ++ [46] ++ (if dg.drop 1 = [] then [48] else dg.drop 1) ++ [69] ++ Lib.itoa (pw - 1))).toArray⟩ := ⟨_, rfl⟩
  have hTd : T.data.toList = (if bl = true then [45] else []) ++ (W.data.toList ++ [46] ++ (if decide (dg.drop 1 = []) = true then [48] else P.data.toList) ++ [69] ++ I.data.toList) := by
    rw [hT, hWd, hPd, hId]; simp
  show Calls _ _ _ _ fun e w' => e = .returned (.tuple #[.string ⟨((if bl = true then [45] else []) ++ (dg.take 1 ++ [46] ++ (if dg.drop 1 = [] then [48] else dg.drop 1) ++ [69] ++ Lib.itoa (pw - 1))).toArray⟩, .bool true]) ∧ _
  rw [← hT]
  have HIT := Lib.hid hit
  have hw1 : IntKind.i64.wrap (pw - 1) = pw - 1 := by rw [IntKind.wrap_i64]; omega
  clear hsc hD hDd hi1 hi2 hd hs x5 x6 hWd hPd hn hit hil hI hId hT
  obtain ⟨dd, hdd⟩ : ∃ b, b = decide (dg.drop 1 = []) := ⟨_, rfl⟩
  rw [← hdd] at hPe hTd
  have HF := Lib.hid hTd
  have HPW := Lib.hid hpw
  clear hTd hdd hpw
  cases dd with
  | true =>
    have hf := HF.out
    simp only [Bool.false_eq_true, if_false, if_true] at hf
    have HF := Lib.hid hf
    have hcc : (W ++ ⟨#[46]⟩ ++ ⟨#[48]⟩ ++ ⟨#[69]⟩).size ≤ 2000000000 := by simp only [ByteArray.size_append]; show W.size + 1 + 1 + 1 ≤ _; omega
    clear hf
    go_enter Tryz.func101, Tryz.ntmps101
    go_upto_region 15 with fail
    obtain ⟨r1, hb⟩ := box1 w (.cells #[.bool bl, .string D, .int .i64 pw, .int .i64 0, .bool false] 55)
    generalize World.alloc w _ = w2 at r1 hb ⊢
    have hpw2 := HPW.out.below hb
    have hz := lt_of_block r1
    have q1 := Lw.row r1
    have x0 := fun x => (row_cell (q1 x) 0)
    have x1 := fun x => (row_cell (q1 x) 1)
    have x2 := fun x => (row_cell (q1 x) 2)
    have hit2 : ∀ x : Lw w2, Calls Tryz.prog 141 #[.int .i64 (pw - 1)] x.to fun e w' => e = .returned (.string I) ∧ Below x.to.heap.size x.to w' := fun x => HIT.out x.to (hpw2.below x.bel)
    have HIT2 := Lib.hid hit2
    simp at x0 x1 x2
    clear q1 r1 hit2 hpw2
    refine wp_region_lw (by kernel_rfl) (by kernel_rfl) ?_
    repeat (go_big_quiet_step (first | exact rfl | (go_at_call 141; with_reducible exact lw_call (HIT2.out _))))
    refine wpQuiet_nil ?_
    rintro ⟨w3, hb3⟩
    have u0 := x0 ⟨w3, hb3⟩
    dsimp only at u0 ⊢
    have hb4 := hb.trans (hb3.mono hb.size)
    clear x0 x1 x2 hb hb3 HIT2
    have hci : (W ++ ⟨#[46]⟩ ++ ⟨#[48]⟩ ++ ⟨#[69]⟩ ++ I).size ≤ 3000000000 := by rw [ByteArray.size_append]; omega
    cases bl with
    | false =>
      go_wp2_with fail
      go_ret2
      exact ⟨rs_str2 (ba_ext (by rw [HF.out]; simp)), hb4⟩
    | true =>
      go_wp2_with fail
      go_ret2
      exact ⟨rs_str2 (ba_ext (by rw [HF.out]; simp)), hb4⟩
  | false =>
    have hf := HF.out
    simp only [Bool.false_eq_true, if_false, if_true] at hf
    have HF := Lib.hid hf
    have hcc : (W ++ ⟨#[46]⟩ ++ P ++ ⟨#[69]⟩).size ≤ 2000000000 := by simp only [ByteArray.size_append]; show W.size + 1 + P.size + 1 ≤ _; omega
    clear hf
    go_enter Tryz.func101, Tryz.ntmps101
    go_upto_region 15 with fail
    obtain ⟨r1, hb⟩ := box1 w (.cells #[.bool bl, .string D, .int .i64 pw, .int .i64 0, .bool false] 55)
    generalize World.alloc w _ = w2 at r1 hb ⊢
    have hpw2 := HPW.out.below hb
    have hz := lt_of_block r1
    have q1 := Lw.row r1
    have x0 := fun x => (row_cell (q1 x) 0)
    have x1 := fun x => (row_cell (q1 x) 1)
    have x2 := fun x => (row_cell (q1 x) 2)
    have hit2 : ∀ x : Lw w2, Calls Tryz.prog 141 #[.int .i64 (pw - 1)] x.to fun e w' => e = .returned (.string I) ∧ Below x.to.heap.size x.to w' := fun x => HIT.out x.to (hpw2.below x.bel)
    have HIT2 := Lib.hid hit2
    simp at x0 x1 x2
    clear q1 r1 hit2 hpw2
    refine wp_region_lw (by kernel_rfl) (by kernel_rfl) ?_
    repeat (go_big_quiet_step (first | exact rfl | (go_at_call 141; with_reducible exact lw_call (HIT2.out _))))
    refine wpQuiet_nil ?_
    rintro ⟨w3, hb3⟩
    have u0 := x0 ⟨w3, hb3⟩
    dsimp only at u0 ⊢
    have hb4 := hb.trans (hb3.mono hb.size)
    clear x0 x1 x2 hb hb3 HIT2
    have hci : (W ++ ⟨#[46]⟩ ++ P ++ ⟨#[69]⟩ ++ I).size ≤ 3000000000 := by rw [ByteArray.size_append]; omega
    cases bl with
    | false =>
      go_wp2_with fail
      go_ret2
      exact ⟨rs_str2 (ba_ext (by rw [HF.out]; simp)), hb4⟩
    | true =>
      go_wp2_with fail
      go_ret2
      exact ⟨rs_str2 (ba_ext (by rw [HF.out]; simp)), hb4⟩
end Go.Proofs.YtlhcejbimlilaaaGreatDoor
