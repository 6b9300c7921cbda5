/- VaK VaF, laid as one. -/
import Derived.Test.YtlhcejbimlilaaaGreatDoorVaB
import Derived.Test.YtlhcejbimlilaaaGreatDoorVaD
import Derived.Test.YtlhcejbimlilaaaGreatDoorVaC
set_option linter.unusedVariables false
set_option linter.unusedSimpArgs false
/- The program's two, readZone. -/
namespace Go.Tk
open Go Go.RowKit
def tw1 (o : Option (Int × List UInt8)) : Int := match o with | none => 0 | some x => x.1
def tw2 (o : Option (Int × List UInt8)) : List UInt8 := match o with | none => [] | some x => x.2
def twV (o : Option (Int × List UInt8)) : Value := .tuple #[.int .i64 (tw1 o), .string ⟨(tw2 o).toArray⟩, .bool o.isSome]
theorem twoP_short {l m : List UInt8} (h : l.length < 2) : twoP l m = none := by
  match l, h with
  | [], _ => rfl
  | [_], _ => rfl
theorem twoP_long {l m : List UInt8} {a b : UInt8} (h : l = a :: b :: l.drop 2) : twoP l m = if (dgB [a, b] && Lib.hasPrefix (l.drop 2) m) = true then some (((a.toNat : Int) - 48) * 10 + ((b.toNat : Int) - 48), (l.drop 2).drop m.length) else none := by
  conv => lhs; rw [h]
  rfl
theorem ba_two (s : ByteArray) (h : 1 < s.size) : s.data.toList = s[0] :: s[1] :: s.data.toList.drop 2 := by
  have h1 := ba_cons s (by omega)
  have h2 := List.drop_eq_getElem_cons (l := s.data.toList) (i := 1) (by rw [← Lib.size_eq]; exact h)
  rw [h2, ba_get s 1 h] at h1
  exact h1
theorem twoP_bd {l m : List UInt8} {n : Int} {r : List UInt8} (h : twoP l m = some (n, r)) : 0 ≤ n ∧ n ≤ 99 ∧ r.length ≤ l.length := by
  match l, h with
  | a :: b :: t, h =>
    simp only [twoP] at h
    split at h
    · rename_i hc
      simp only [Option.some.injEq, Prod.mk.injEq] at h
      obtain ⟨rfl, rfl⟩ := h
      simp only [Bool.and_eq_true, dgB_cons, decide_eq_true_eq] at hc
      rw [List.length_drop]
      simp only [List.length_cons]
      omega
    · cases h
end Go.Tk
namespace Go.Proofs.YtlhcejbimlilaaaGreatDoor
open Go.RowKit Go.Tk
theorem hasPrefix_calls (s p : ByteArray) (w : World) : Calls Tryz.prog 154 #[.string s, .string p] w fun e w' => e = .returned (.bool (Lib.hasPrefix s.data.toList p.data.toList)) ∧ w = w' :=
  (Tryz.strings_HasPrefix s p w).mono fun _ _ ⟨h, h2⟩ => ⟨h, h2.symm⟩
set_option maxHeartbeats 1000000 in
theorem two_calls (s mk : ByteArray) (w : World) (hs : s.size ≤ 4000000000) (hm : mk.size ≤ 1) :
    Calls Tryz.prog 125 #[.string s, .string mk] w fun e w' => e = .returned (twV (twoP s.data.toList mk.data.toList)) ∧ ∃ n, w' = w.drewN n := by
  have hll : s.data.toList.length = s.size := (Lib.size_eq s).symm
  by_cases h2 : 1 < s.size
  · have hcs := ba_two s h2
    have htp := twoP_long (m := mk.data.toList) hcs
    have h0 : 0 < s.size := by omega
    obtain ⟨a, ha⟩ : ∃ a, s[0] = a := ⟨_, rfl⟩
    obtain ⟨b, hb⟩ : ∃ b, s[1] = b := ⟨_, rfl⟩
    rw [ha, hb] at hcs htp
    have x1 := ex_take s 2
    have x2 := ex_drop s 2
    obtain ⟨H, hH⟩ : ∃ H, s.extract 0 2 = H := ⟨_, rfl⟩
    obtain ⟨R, hR⟩ : ∃ R, s.extract 2 s.size = R := ⟨_, rfl⟩
    rw [hH] at x1
    rw [hR] at x2
    have hHd : H.data.toList = [a, b] := by rw [x1, hcs]; rfl
    have hRd : R.data.toList = s.data.toList.drop 2 := by rw [x2]
    have hHs : H.size = 2 := by rw [Lib.size_eq, hHd]; rfl
    have hda := fun w => allDigits_calls H w (by omega)
    have hpf := fun w => hasPrefix_calls R mk w
    rw [hHd] at hda
    rw [hRd] at hpf
    have h2i : ¬ (s.size : Int) < 2 := by omega
    obtain ⟨dg, hdg⟩ : ∃ d, d = dgB [a, b] := ⟨_, rfl⟩
    obtain ⟨pf, hpf'⟩ : ∃ d, d = Lib.hasPrefix (s.data.toList.drop 2) mk.data.toList := ⟨_, rfl⟩
    rw [← hdg] at hda htp
    rw [← hpf'] at hpf htp
    have HDA := Lib.hid hda
    have HPF := Lib.hid hpf
    clear hda hpf x1 x2 hHd hRd hHs
    cases dg with
    | false =>
      rw [htp]
      clear htp hll hcs ha hb hdg hpf'
      show Calls _ _ _ _ fun e w' => e = .returned (.tuple #[.int .i64 0, .string ⟨#[]⟩, .bool false]) ∧ _
      go_enter Tryz.func125, Tryz.ntmps125
      go_wp2_with (first | (go_at_call 96; (with_reducible refine (HDA.out _).mono ?_); rintro e w' ⟨rfl, rfl⟩) | (go_at_call 154; (with_reducible refine (HPF.out _).mono ?_); rintro e w' ⟨rfl, rfl⟩))
      refine bodyPost_ret (v := .tuple #[.int .i64 0, .string ⟨#[]⟩, .bool false]) (by simp [results, Tryz.results125, go_sem]) rfl ⟨rfl, 0, rfl⟩
    | true =>
    cases pf with
    | false =>
      rw [htp]
      clear htp hll hcs ha hb hdg hpf'
      show Calls _ _ _ _ fun e w' => e = .returned (.tuple #[.int .i64 0, .string ⟨#[]⟩, .bool false]) ∧ _
      go_enter Tryz.func125, Tryz.ntmps125
      go_wp2_with (first | (go_at_call 96; (with_reducible refine (HDA.out _).mono ?_); rintro e w' ⟨rfl, rfl⟩) | (go_at_call 154; (with_reducible refine (HPF.out _).mono ?_); rintro e w' ⟨rfl, rfl⟩))
      refine bodyPost_ret (v := .tuple #[.int .i64 0, .string ⟨#[]⟩, .bool false]) (by simp [results, Tryz.results125, go_sem]) rfl ⟨rfl, 0, rfl⟩
    | true =>
      rw [htp]
      have hpl : mk.size ≤ s.size - 2 := by
        have h3 := List.IsPrefix.length_le (List.isPrefixOf_iff_prefix.1 (show List.isPrefixOf mk.data.toList (s.data.toList.drop 2) = true from hpf'.symm))
        rw [List.length_drop, ← Lib.size_eq, ← Lib.size_eq] at h3
        exact h3
      have hab := hdg.symm
      simp only [dgB_cons, Bool.and_eq_true, decide_eq_true_eq] at hab
      have x3 := ex_drop s (2 + mk.size)
      obtain ⟨T, hT⟩ : ∃ T, s.extract (2 + mk.size) s.size = T := ⟨_, rfl⟩
      rw [hT] at x3
      have hTe : T = ⟨((s.data.toList.drop 2).drop mk.data.toList.length).toArray⟩ := by rw [x3, List.drop_drop, ← Lib.size_eq mk]
      show Calls _ _ _ _ fun e w' => e = .returned (.tuple #[.int .i64 (((a.toNat : Int) - 48) * 10 + ((b.toNat : Int) - 48)), .string ⟨((s.data.toList.drop 2).drop mk.data.toList.length).toArray⟩, .bool true]) ∧ _
      rw [← hTe]
      have ga : (((s[0]'h0).toNat : Nat) : Int) = (a.toNat : Int) := by rw [ha]
      have gb : (((s[1]'h2).toNat : Nat) : Int) = (b.toNat : Int) := by rw [hb]
      obtain ⟨x, hx⟩ : ∃ x : Int, x = (a.toNat : Int) := ⟨_, rfl⟩
      obtain ⟨y, hy⟩ : ∃ y : Int, y = (b.toNat : Int) := ⟨_, rfl⟩
      rw [← hx] at ga ⊢
      rw [← hy] at gb ⊢
      have hx1 : 48 ≤ x := by omega
      have hx2 : x ≤ 57 := by omega
      have hy1 : 48 ≤ y := by omega
      have hy2 : y ≤ 57 := by omega
      have k1 : IntKind.u8.wrap (x - 48) = x - 48 := by rw [IntKind.wrap_u8]; omega
      have k2 : IntKind.u8.wrap (y - 48) = y - 48 := by rw [IntKind.wrap_u8]; omega
      have k3 : IntKind.i64.wrap (x - 48) = x - 48 := by rw [IntKind.wrap_i64]; omega
      have k4 : IntKind.i64.wrap (y - 48) = y - 48 := by rw [IntKind.wrap_i64]; omega
      have k5 : IntKind.i64.wrap ((x - 48) * 10) = (x - 48) * 10 := by rw [IntKind.wrap_i64]; omega
      have k6 : IntKind.i64.wrap ((x - 48) * 10 + (y - 48)) = (x - 48) * 10 + (y - 48) := by rw [IntKind.wrap_i64]; omega
      have k7 : IntKind.i64.wrap (2 + (mk.size : Int)) = 2 + (mk.size : Int) := by rw [IntKind.wrap_i64]; omega
      have k8 : (2 + (mk.size : Int)).toNat = 2 + mk.size := by omega
      have k9 : (2 + (mk.size : Int)) ≤ s.size := by omega
      have k10 : 0 ≤ (2 + (mk.size : Int)) := by omega
      clear htp hll hcs ha hb hdg hpf' hab x3 hTe hx hy
      go_enter Tryz.func125, Tryz.ntmps125
      go_wp2_with (first | (go_at_call 96; (with_reducible refine (HDA.out _).mono ?_); rintro e w' ⟨rfl, rfl⟩) | (go_at_call 154; (with_reducible refine (HPF.out _).mono ?_); rintro e w' ⟨rfl, rfl⟩))
      go_quiet (exact rfl)
      go_wp2_with fail
      refine bodyPost_ret (v := .tuple #[.int .i64 ((x - 48) * 10 + (y - 48)), .string T, .bool true]) (by simp [results, Tryz.results125, go_sem]) rfl ⟨rfl, _, rfl⟩
  · rw [twoP_short (by omega)]
    show Calls _ _ _ _ fun e w' => e = .returned (.tuple #[.int .i64 0, .string ⟨#[]⟩, .bool false]) ∧ _
    have h2i : (s.size : Int) < 2 := by omega
    clear hll h2
    go_enter Tryz.func125, Tryz.ntmps125
    go_wp2_with fail
    refine bodyPost_ret (v := .tuple #[.int .i64 0, .string ⟨#[]⟩, .bool false]) (by simp [results, Tryz.results125, go_sem]) rfl ⟨rfl, 0, rfl⟩
/- rz -/
def rdZ3 (c : UInt8) (h : Int) (o : Option (Int × List UInt8)) : Option (Bool × Int) := match o with
  | none => none
  | some (m, e) => if e ≠ [] ∨ 59 < m ∨ 14 < h ∨ (h = 14 ∧ 0 < m) then none else some (true, if c = 45 then -60 * h - m else 60 * h + m)
def rdZ2 (c : UInt8) (o : Option (Int × List UInt8)) : Option (Bool × Int) := match o with
  | none => none
  | some (h, r) => rdZ3 c h (twoP r [])
theorem rdZ_eq (c : UInt8) (t : List UInt8) : rdZ (c :: t) = if c = 90 ∧ t = [] then some (true, 0) else if c ≠ 43 ∧ c ≠ 45 then none else rdZ2 c (twoP t [58]) := rfl
def rzV (o : Option (Bool × Int)) : Value := match o with
  | none => .tuple #[.bool false, .int .i64 0, .bool false]
  | some x => .tuple #[.bool x.1, .int .i64 x.2, .bool true]
set_option maxHeartbeats 2000000 in
theorem readZone_calls (s : ByteArray) (w : World) (hs : s.size ≤ 4000000000) :
    Calls Tryz.prog 129 #[.string s] w fun e w' => e = .returned (rzV (rdZ s.data.toList)) ∧ ∃ n, w' = w.drewN n := by
  by_cases h0 : 0 < s.size
  · have hcs := ba_cons s h0
    obtain ⟨c, hc⟩ : ∃ c, s[0] = c := ⟨_, rfl⟩
    have x1 := ex_drop s 1
    obtain ⟨T, hT⟩ : ∃ T, s.extract 1 s.size = T := ⟨_, rfl⟩
    rw [hT] at x1
    have hTd : T.data.toList = s.data.toList.drop 1 := by rw [x1]
    have hTs : T.size ≤ 4000000000 := by rw [Lib.size_eq, hTd, List.length_drop, ← Lib.size_eq]; omega
    rw [hc, ← hTd] at hcs
    have hz := rdZ_eq c T.data.toList
    rw [← hcs] at hz
    have he0 : (s.toList == []) = false := by rw [Lib.toList_data, hcs]; rfl
    have gc : (((s[0]'h0).toNat : Nat) : Int) = (c.toNat : Int) := by rw [hc]
    have cz := UInt8.toNat_lt c
    by_cases h90 : c = 90 ∧ T.data.toList = []
    · rw [hz, if_pos h90]
      have he1 : (s.toList == [90]) = true := by rw [Lib.toList_data, hcs, h90.1, h90.2]; rfl
      clear hcs hc x1 hTd hz h90 gc cz
      show Calls _ _ _ _ fun e w' => e = .returned (.tuple #[.bool true, .int .i64 0, .bool true]) ∧ _
      go_enter Tryz.func129, Tryz.ntmps129
      go_wp2_with fail
      refine bodyPost_ret (v := .tuple #[.bool true, .int .i64 0, .bool true]) (by simp [results, Tryz.results129, go_sem]) rfl ⟨rfl, 0, rfl⟩
    rw [if_neg h90] at hz
    have he1 : (s.toList == [90]) = false := by
      rw [Lib.toList_data, hcs]
      refine beq_false_of_ne fun e => h90 ?_
      simp only [List.cons.injEq] at e
      exact e
    obtain ⟨x, hx⟩ : ∃ x : Int, x = (c.toNat : Int) := ⟨_, rfl⟩
    rw [← hx] at gc
    by_cases hsg : c ≠ 43 ∧ c ≠ 45
    · rw [hz, if_pos hsg]
      have b1 : (x != 43) = true := by rw [bne_iff_ne]; intro e; exact hsg.1 (u8_eq (n := 43) (by omega) (by omega))
      have b2 : (x != 45) = true := by rw [bne_iff_ne]; intro e; exact hsg.2 (u8_eq (n := 45) (by omega) (by omega))
      clear hcs hc x1 hTd hz h90 hsg hx
      show Calls _ _ _ _ fun e w' => e = .returned (.tuple #[.bool false, .int .i64 0, .bool false]) ∧ _
      go_enter Tryz.func129, Tryz.ntmps129
      go_wp2_with fail
      refine bodyPost_ret (v := .tuple #[.bool false, .int .i64 0, .bool false]) (by simp [results, Tryz.results129, go_sem]) rfl ⟨rfl, 0, rfl⟩
    rw [if_neg hsg] at hz
    have bsg : (x != 43) = false ∨ (x != 43) = true ∧ (x != 45) = false := by
      by_cases h : x = 43
      · left; simp [h]
      · right
        refine ⟨by simpa using h, ?_⟩
        rw [bne_eq_false_iff_eq]
        by_cases h2 : x = 45
        · exact h2
        · exact absurd ⟨fun e => h (by rw [hx, e]; rfl), fun e => h2 (by rw [hx, e]; rfl)⟩ hsg
    have b45 : (x == 45) = decide (c = 45) := by
      by_cases h : c = 45
      · rw [decide_eq_true h, beq_iff_eq, hx, h]; rfl
      · rw [decide_eq_false h, beq_eq_false_iff_ne]; intro e; exact h (u8_eq (n := 45) (by omega) (by omega))
    have ht1 := fun w => two_calls T ⟨#[58]⟩ w (by omega) (by decide)
    obtain ⟨o1, ho1⟩ : ∃ o, o = twoP T.data.toList [58] := ⟨_, rfl⟩
    have ht1 : ∀ w, Calls Tryz.prog 125 #[.string T, .string ⟨#[58]⟩] w fun e w' => e = .returned (twV o1) ∧ ∃ n, w' = w.drewN n := fun w => by rw [ho1]; exact ht1 w
    rw [← ho1] at hz
    rw [hz]
    obtain ⟨d45, hd45⟩ : ∃ d, d = decide (c = 45) := ⟨_, rfl⟩
    rw [← hd45] at b45
    have H45 := Lib.hid hd45
    have HO1 := Lib.hid ho1
    clear hcs hc x1 hTd hz h90 hsg hx ho1 hd45 cz
    cases o1 with
    | none =>
      have ht1 : ∀ w, Calls Tryz.prog 125 #[.string T, .string ⟨#[58]⟩] w fun e w' => e = .returned (.tuple #[.int .i64 0, .string ⟨#[]⟩, .bool false]) ∧ ∃ n, w' = w.drewN n := ht1
      have ht2 : ∀ w, Calls Tryz.prog 125 #[.string ⟨#[]⟩, .string ⟨#[]⟩] w fun e w' => e = .returned (.tuple #[.int .i64 0, .string ⟨#[]⟩, .bool false]) ∧ ∃ n, w' = w.drewN n := fun w => two_calls ⟨#[]⟩ ⟨#[]⟩ w (by decide) (by decide)
      have HT1 := Lib.hid ht1
      have HT2 := Lib.hid ht2
      clear ht1 ht2
      show Calls _ _ _ _ fun e w' => e = .returned (.tuple #[.bool false, .int .i64 0, .bool false]) ∧ _
      rcases bsg with b1 | ⟨b1, b2⟩
      all_goals
        go_enter Tryz.func129, Tryz.ntmps129
        go_wp2_with (first | (go_at_call 125; (with_reducible refine (HT1.out _).mono ?_); rintro e w' ⟨rfl, n1, rfl⟩) | (go_at_call 125; (with_reducible refine (HT2.out _).mono ?_); rintro e w' ⟨rfl, n2, rfl⟩))
        refine bodyPost_ret (v := .tuple #[.bool false, .int .i64 0, .bool false]) (by simp [results, Tryz.results129, go_sem]) rfl ⟨rfl, _, rfl⟩
    | some q =>
    obtain ⟨h, r⟩ := q
    have bh := twoP_bd HO1.out.symm
    obtain ⟨R, hR⟩ : ∃ R : ByteArray, R = ⟨r.toArray⟩ := ⟨_, rfl⟩
    have hRd : R.data.toList = r := by rw [hR]
    have hRs : R.size ≤ 4000000000 := by rw [Lib.size_eq, hRd]; have := bh.2.2; rw [← Lib.size_eq] at this; omega
    have ht1 : ∀ w, Calls Tryz.prog 125 #[.string T, .string ⟨#[58]⟩] w fun e w' => e = .returned (.tuple #[.int .i64 h, .string R, .bool true]) ∧ ∃ n, w' = w.drewN n := fun w => by rw [hR]; exact ht1 w
    have ht2 := fun w => two_calls R ⟨#[]⟩ w (by omega) (by decide)
    obtain ⟨o2, ho2⟩ : ∃ o, o = twoP r [] := ⟨_, rfl⟩
    have ht2 : ∀ w, Calls Tryz.prog 125 #[.string R, .string ⟨#[]⟩] w fun e w' => e = .returned (twV o2) ∧ ∃ n, w' = w.drewN n := fun w => by rw [ho2, ← hRd]; exact ht2 w
    show Calls _ _ _ _ fun e w' => e = .returned (rzV (rdZ3 c h (twoP r []))) ∧ _
    rw [← ho2]
    have HT1 := Lib.hid ht1
    have HO2 := Lib.hid ho2
    obtain ⟨bh1, bh2, _⟩ := bh
    clear ht1 hR hRd HO1 ho2
    cases o2 with
    | none =>
      have ht2 : ∀ w, Calls Tryz.prog 125 #[.string R, .string ⟨#[]⟩] w fun e w' => e = .returned (.tuple #[.int .i64 0, .string ⟨#[]⟩, .bool false]) ∧ ∃ n, w' = w.drewN n := ht2
      have HT2 := Lib.hid ht2
      clear ht2
      show Calls _ _ _ _ fun e w' => e = .returned (.tuple #[.bool false, .int .i64 0, .bool false]) ∧ _
      rcases bsg with b1 | ⟨b1, b2⟩
      all_goals
        go_enter Tryz.func129, Tryz.ntmps129
        go_wp2_with (first | (go_at_call 125; (with_reducible refine (HT1.out _).mono ?_); rintro e w' ⟨rfl, n1, rfl⟩) | (go_at_call 125; (with_reducible refine (HT2.out _).mono ?_); rintro e w' ⟨rfl, n2, rfl⟩))
        refine bodyPost_ret (v := .tuple #[.bool false, .int .i64 0, .bool false]) (by simp [results, Tryz.results129, go_sem]) rfl ⟨rfl, _, rfl⟩
    | some q =>
    obtain ⟨m, e⟩ := q
    have bm := twoP_bd HO2.out.symm
    obtain ⟨bm1, bm2, _⟩ := bm
    have hee := emp_ba e
    obtain ⟨E, hE⟩ : ∃ E : ByteArray, E = ⟨e.toArray⟩ := ⟨_, rfl⟩
    rw [← hE] at hee
    have ht2 : ∀ w, Calls Tryz.prog 125 #[.string R, .string ⟨#[]⟩] w fun e' w' => e' = .returned (.tuple #[.int .i64 m, .string E, .bool true]) ∧ ∃ n, w' = w.drewN n := fun w => by rw [hE]; exact ht2 w
    have HT2 := Lib.hid ht2
    have hr3 : rdZ3 c h (some (m, e)) = if e ≠ [] ∨ 59 < m ∨ 14 < h ∨ (h = 14 ∧ 0 < m) then none else some (true, if c = 45 then -60 * h - m else 60 * h + m) := rfl
    rw [hr3]
    clear ht2 hE HO2 hr3
    by_cases hbad : e ≠ [] ∨ 59 < m ∨ 14 < h ∨ (h = 14 ∧ 0 < m)
    · rw [if_pos hbad]
      show Calls _ _ _ _ fun e w' => e = .returned (.tuple #[.bool false, .int .i64 0, .bool false]) ∧ _
      have hb4 : (E.toList == []) = false ∨ (E.toList == []) = true ∧ (59 < m ∨ m ≤ 59 ∧ (14 < h ∨ (h = 14 ∧ 0 < m))) := by
        by_cases h1 : e = []
        · right
          refine ⟨by rw [hee, h1]; rfl, ?_⟩
          rcases hbad with q | q | q | q
          · exact absurd h1 q
          · exact .inl q
          · by_cases q2 : 59 < m
            · exact .inl q2
            · exact .inr ⟨by omega, .inl q⟩
          · by_cases q2 : 59 < m
            · exact .inl q2
            · exact .inr ⟨by omega, .inr q⟩
        · left; rw [hee]; exact decide_eq_false h1
      clear hbad hee
      rcases bsg with b1 | ⟨b1, b2⟩
      all_goals
        rcases hb4 with q1 | ⟨q1, q2 | ⟨q2, q3 | ⟨rfl, q4⟩⟩⟩
        all_goals
          go_enter Tryz.func129, Tryz.ntmps129
          go_wp2_with (first | (go_at_call 125; (with_reducible refine (HT1.out _).mono ?_); rintro e w' ⟨rfl, n1, rfl⟩) | (go_at_call 125; (with_reducible refine (HT2.out _).mono ?_); rintro e w' ⟨rfl, n2, rfl⟩))
          refine bodyPost_ret (v := .tuple #[.bool false, .int .i64 0, .bool false]) (by simp [results, Tryz.results129, go_sem]) rfl ⟨rfl, _, rfl⟩
    · rw [if_neg hbad]
      have q1 : (E.toList == []) = true := by rw [hee, decide_eq_true_eq]; by_cases h1 : e = []; exact h1; exact absurd (.inl h1) hbad
      have q2 : m ≤ 59 := by omega
      have q3 : h ≤ 14 := by omega
      have q4 : h < 14 ∨ h = 14 ∧ m = 0 := by
        by_cases h1 : h < 14
        · exact .inl h1
        · refine .inr ⟨by omega, ?_⟩
          by_cases h2 : 0 < m
          · exact absurd (.inr (.inr (.inr ⟨by omega, h2⟩))) hbad
          · omega
      have hv : (if c = 45 then -60 * h - m else 60 * h + m) = if d45 = true then -60 * h - m else 60 * h + m := by rw [H45.out]; simp
      rw [hv]
      clear hbad hee hv
      cases d45 with
      | true =>
        show Calls _ _ _ _ fun e w' => e = .returned (.tuple #[.bool true, .int .i64 (-60 * h - m), .bool true]) ∧ _
        rcases bsg with b1 | ⟨b1, b2⟩
        all_goals
          rcases q4 with q4 | ⟨rfl, rfl⟩
          all_goals
            go_enter Tryz.func129, Tryz.ntmps129
            go_wp2_with (first | (go_at_call 125; (with_reducible refine (HT1.out _).mono ?_); rintro e w' ⟨rfl, n1, rfl⟩) | (go_at_call 125; (with_reducible refine (HT2.out _).mono ?_); rintro e w' ⟨rfl, n2, rfl⟩))
            refine bodyPost_ret (v := .tuple #[.bool true, .int .i64 (-60 * _ - _), .bool true]) (by simp [results, Tryz.results129, go_sem]) rfl ⟨rfl, _, rfl⟩
      | false =>
        show Calls _ _ _ _ fun e w' => e = .returned (.tuple #[.bool true, .int .i64 (60 * h + m), .bool true]) ∧ _
        rcases bsg with b1 | ⟨b1, b2⟩
        all_goals
          rcases q4 with q4 | ⟨rfl, rfl⟩
          all_goals
            go_enter Tryz.func129, Tryz.ntmps129
            go_wp2_with (first | (go_at_call 125; (with_reducible refine (HT1.out _).mono ?_); rintro e w' ⟨rfl, n1, rfl⟩) | (go_at_call 125; (with_reducible refine (HT2.out _).mono ?_); rintro e w' ⟨rfl, n2, rfl⟩))
            refine bodyPost_ret (v := .tuple #[.bool true, .int .i64 (60 * _ + _), .bool true]) (by simp [results, Tryz.results129, go_sem]) rfl ⟨rfl, _, rfl⟩
  · have hn := ba_nil s h0
    have e0 : rdZ s.data.toList = some (false, 0) := by rw [hn]; rfl
    have he0 : (s.toList == []) = true := by rw [Lib.toList_data, hn]; rfl
    rw [e0]
    clear hn e0 h0
    show Calls _ _ _ _ fun e w' => e = .returned (.tuple #[.bool false, .int .i64 0, .bool true]) ∧ _
    go_enter Tryz.func129, Tryz.ntmps129
    go_wp2_with fail
    refine bodyPost_ret (v := .tuple #[.bool false, .int .i64 0, .bool true]) (by simp [results, Tryz.results129, go_sem]) rfl ⟨rfl, 0, rfl⟩
end Go.Proofs.YtlhcejbimlilaaaGreatDoor
/- The program's texts of numbers: whole, plain, scientific. -/
namespace Go.Tk
open Go Go.RowKit
theorem ba_ext {a b : ByteArray} (h : a.data.toList = b.data.toList) : a = b := by
  rw [← str_mk a, ← str_mk b, h]
theorem sz_mk (l : List UInt8) : (⟨l.toArray⟩ : ByteArray).size = l.length := by simp [ByteArray.size]
end Go.Tk
namespace Go.Proofs.YtlhcejbimlilaaaGreatDoor
open Go.RowKit Go.Tk
end Go.Proofs.YtlhcejbimlilaaaGreatDoor
