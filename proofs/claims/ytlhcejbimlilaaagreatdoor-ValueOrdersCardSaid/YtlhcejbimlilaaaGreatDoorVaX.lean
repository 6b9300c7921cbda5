/- VdO VdP VaX, laid as one. -/
import Derived.Test.YtlhcejbimlilaaaGreatDoorVdB
import Derived.Test.YtlhcejbimlilaaaGreatDoorVbM
import Derived.Test.YtlhcejbimlilaaaGreatDoorQuL
import Derived.Test.YtlhcejbimlilaaaGreatDoorVaW
set_option linter.unusedVariables false
set_option linter.unusedSimpArgs false
/- The document's zone, whole. -/
namespace Go.Tk
open Go Go.RowKit
theorem twoP_of {a b : UInt8} {u mk : List UInt8} : twoP (a :: b :: u) mk = if (dgB [a, b] && Lib.hasPrefix u mk) = true then some (tw8 (a :: b :: u), u.drop mk.length) else none := by
  show (if (dgB [a, b] && Lib.hasPrefix u mk) = true then some (((a.toNat : Int) - 48) * 10 + ((b.toNat : Int) - 48), u.drop mk.length) else none) = _
  cases h : dgB [a, b] with
  | false => rfl
  | true =>
    have e : tw8 (a :: b :: u) = 10 * ((a.toNat : Int) - 48) + ((b.toNat : Int) - 48) := by
      show (if dgB [a, b] = true then _ else _) = _
      rw [h, if_pos rfl]
    rw [e]
    congr 3
    omega
theorem tw8_no {a b : UInt8} {u : List UInt8} (h : dgB [a, b] = false) : tw8 (a :: b :: u) = -1 := by
  show (if dgB [a, b] = true then _ else _) = _
  rw [h]; rfl
theorem tw8_yes {a b : UInt8} {u : List UInt8} (h : dgB [a, b] = true) : 0 ≤ tw8 (a :: b :: u) := by
  have h1 := List.all_eq_true.1 h a (by simp)
  have h2 := List.all_eq_true.1 h b (by simp)
  simp only [Bool.and_eq_true, decide_eq_true_eq] at h1 h2
  have e1 := UInt8.le_iff_toNat_le.1 h1.1
  have e3 := UInt8.le_iff_toNat_le.1 h2.1
  have k1 : (48 : UInt8).toNat = 48 := rfl
  show 0 ≤ (if dgB [a, b] = true then 10 * ((a.toNat : Int) - 48) + ((b.toNat : Int) - 48) else -1)
  rw [h, if_pos rfl]
  omega
theorem twoP_some {l mk : List UInt8} {v : Int} {r : List UInt8} (h : twoP l mk = some (v, r)) : ∃ a b u, l = a :: b :: u ∧ dgB [a, b] = true ∧ Lib.hasPrefix u mk = true ∧ v = tw8 l ∧ r = u.drop mk.length := by
  cases l with
  | nil => cases h
  | cons a t =>
    cases t with
    | nil => cases h
    | cons b u =>
      rw [twoP_of] at h
      split at h
      · rename_i hc
        rw [Bool.and_eq_true] at hc
        obtain ⟨e1, e2⟩ := Prod.mk.inj (Option.some.inj h)
        exact ⟨a, b, u, rfl, hc.1, hc.2, e1.symm, e2.symm⟩
      · cases h
theorem pre_58 {u : List UInt8} {c : UInt8} (h : Lib.hasPrefix u [c] = true) : ∃ r, u = c :: r := by
  unfold Lib.hasPrefix at h
  obtain ⟨r, hr⟩ := List.isPrefixOf_iff_prefix.1 h
  exact ⟨r, hr.symm⟩
/-- A zone's text that has not six signs is none. -/
theorem rdZ_len {l : List UInt8} (h0 : l ≠ []) (h9 : l ≠ [90]) (h6 : l.length ≠ 6) : rdZ l = none := by
  cases l with
  | nil => exact absurd rfl h0
  | cons c t =>
    unfold rdZ
    dsimp only
    rw [if_neg (by rintro ⟨rfl, rfl⟩; exact h9 rfl)]
    split
    · rfl
    · cases h1 : twoP t [58] with
      | none => rfl
      | some x =>
        obtain ⟨v, r⟩ := x
        dsimp only
        cases h2 : twoP r [] with
        | none => rfl
        | some y =>
          obtain ⟨v2, e⟩ := y
          dsimp only
          rw [if_pos]
          left
          rintro rfl
          obtain ⟨a, b, u, rfl, _, hp, _, rfl⟩ := twoP_some h1
          obtain ⟨q, rfl⟩ := pre_58 hp
          obtain ⟨a2, b2, u2, hq, _, _, _, hu⟩ := twoP_some h2
          simp at hq hu
          subst hu
          rw [hq] at h6
          simp at h6
theorem rdZ_six {c0 c1 c2 c3 c4 c5 : UInt8} : rdZ [c0, c1, c2, c3, c4, c5] = if c3 ≠ 58 ∨ c0 ≠ 43 ∧ c0 ≠ 45 ∨ btw [c1, c2, c3, c4, c5] 0 14 < 0 ∨ btw [c4, c5] 0 59 < 0 ∨ btw [c1, c2, c3, c4, c5] 0 14 = 14 ∧ btw [c4, c5] 0 59 ≠ 0 then none
    else some (true, if c0 = 45 then -60 * btw [c1, c2, c3, c4, c5] 0 14 - btw [c4, c5] 0 59 else 60 * btw [c1, c2, c3, c4, c5] 0 14 + btw [c4, c5] 0 59) := by
  unfold rdZ
  dsimp only
  rw [if_neg (by rintro ⟨_, h⟩; cases h)]
  by_cases hs : c0 ≠ 43 ∧ c0 ≠ 45
  · rw [if_pos hs, if_pos (.inr (.inl hs))]
  rw [if_neg hs, twoP_of]
  by_cases h3 : c3 = 58
  · subst h3
    rw [pre_one 58 _, Bool.and_true]
    have hb1 : btw [c1, c2, 58, c4, c5] 0 14 = if tw8 [c1, c2, 58, c4, c5] < 0 ∨ 14 < tw8 [c1, c2, 58, c4, c5] then -1 else tw8 [c1, c2, 58, c4, c5] := rfl
    have hb2 : btw [c4, c5] 0 59 = if tw8 [c4, c5] < 0 ∨ 59 < tw8 [c4, c5] then -1 else tw8 [c4, c5] := rfl
    cases d1 : dgB [c1, c2] with
    | false =>
      rw [if_neg (by simp)]
      dsimp only
      rw [hb1, tw8_no d1, if_pos (by omega)]
    | true =>
      have p1 := tw8_yes (u := [58, c4, c5]) d1
      rw [if_pos rfl]
      dsimp only
      rw [show List.drop [(58 : UInt8)].length [58, c4, c5] = [c4, c5] from rfl, twoP_of, pre_nil, Bool.and_true]
      cases d2 : dgB [c4, c5] with
      | false =>
        rw [if_neg (by simp)]
        dsimp only
        rw [hb2, tw8_no d2, if_pos (show (-1 : Int) < 0 ∨ 59 < (-1 : Int) by omega), if_pos]
        exact .inr (.inr (.inr (.inl (by omega))))
      | true =>
        have p2 := tw8_yes (u := []) d2
        rw [if_pos rfl]
        dsimp only
        rw [hb1, hb2]
        generalize tw8 [c1, c2, 58, c4, c5] = h at *
        generalize tw8 [c4, c5] = m at *
        by_cases q : 59 < m ∨ 14 < h ∨ (h = 14 ∧ 0 < m)
        · rw [if_pos (.inr q), if_pos]
          rcases q with q | q | q
          · rw [if_pos (show m < 0 ∨ 59 < m by omega)]; exact .inr (.inr (.inr (.inl (by omega))))
          · rw [if_pos (show h < 0 ∨ 14 < h by omega)]; exact .inr (.inr (.inl (by omega)))
          · rw [if_neg (show ¬ (h < 0 ∨ 14 < h) by omega)]
            by_cases q2 : 59 < m
            · rw [if_pos (show m < 0 ∨ 59 < m by omega)]; exact .inr (.inr (.inr (.inl (by omega))))
            · rw [if_neg (show ¬ (m < 0 ∨ 59 < m) by omega)]; exact .inr (.inr (.inr (.inr ⟨q.1, by omega⟩)))
        · rw [if_neg (show ¬ (List.drop (([] : List UInt8).length) ([] : List UInt8) ≠ [] ∨ 59 < m ∨ 14 < h ∨ h = 14 ∧ 0 < m) from fun e => e.elim (fun e => e rfl) q)]
          rw [if_neg (show ¬ (h < 0 ∨ 14 < h) by omega), if_neg (show ¬ (m < 0 ∨ 59 < m) by omega)]
          rw [if_neg (show ¬ ((58 : UInt8) ≠ 58 ∨ c0 ≠ 43 ∧ c0 ≠ 45 ∨ h < 0 ∨ m < 0 ∨ h = 14 ∧ m ≠ 0) from by
            rintro (e | e | e | e | e)
            · exact e rfl
            · exact hs e
            · omega
            · omega
            · omega)]
  · rw [show Lib.hasPrefix [c3, c4, c5] [58] = false from pre_no _ h3, Bool.and_false, if_neg (by simp)]
    dsimp only
    rw [if_pos (.inl h3)]
end Go.Tk
namespace Go.Proofs.YtlhcejbimlilaaaGreatDoor
open Go.RowKit Go.Tk
def ZoPost (l : List UInt8) (g : Nat) (m : Mo8) (w : World) (e : Ending) (w' : World) : Prop :=
  ∃ (z : Bool) (o : Int), e = .returned (.bool (rdZ l).isSome) ∧ MoAt w' g { m with z := z, o := o } ∧ Below g w w' ∧ ∀ x, rdZ l = some x → (z, o) = x
theorem mo_eta {m : Mo8} (hz : m.z = false) (ho : m.o = 0) : ({ m with z := false, o := 0 } : Mo8) = m := by cases m; simp only at hz ho; rw [hz, ho]
/-- The document's zone, of a moment that has none. -/
theorem rzone_calls (w : World) (g : Nat) (m : Mo8) (s : ByteArray) (hs : s.size ≤ 4000000000) (hz0 : m.z = false) (ho0 : m.o = 0) (hr : MoAt w g m) :
    Calls Tryz.prog 92 #[.pointer (some ⟨g, 0, none⟩), .string s] w (ZoPost s.data.toList g m w) := by
  have hls : s.data.toList.length = s.size := (Lib.size_eq s).symm
  by_cases h0 : s.data.toList = []
  · refine (zo_nil w g m s (by rw [Lib.toList_data, h0]; rfl) hr).mono fun e w' ⟨h1, h2⟩ => ⟨false, 0, ?_, ?_, ?_, ?_⟩
    · rw [h1, h0]; rfl
    · rw [mo_eta hz0 ho0, ← h2]; exact hr
    · rw [← h2]; exact Below.refl _ _
    · rw [h0]; intro x hx; cases hx; rfl
  have n0 : (s.toList == []) = false := by rw [Lib.toList_data]; exact beq_false_of_ne h0
  by_cases h9 : s.data.toList = [90]
  · refine (zo_Z w g m s n0 (by rw [Lib.toList_data, h9]; rfl) hr).mono fun e w' ⟨h1, h2, h3⟩ => ⟨true, m.o, ?_, h2, h3, ?_⟩
    · rw [h1, h9]; rfl
    · rw [h9, ho0]; intro x hx; cases hx; rfl
  have n9 : (s.toList == [90]) = false := by rw [Lib.toList_data]; exact beq_false_of_ne h9
  have bad : rdZ s.data.toList = none → ∀ {e w'}, (e = Ending.returned (.bool false) ∧ MoAt w' g { m with z := true, o := m.o } ∧ Below g w w') → ZoPost s.data.toList g m w e w' := fun hn {e w'} h => ⟨true, m.o, by rw [hn]; exact h.1, h.2.1, h.2.2, fun x hx => by rw [hn] at hx; cases hx⟩
  by_cases h6 : s.size = 6
  · have k0 : 0 < s.size := by omega
    have k3 : 3 < s.size := by omega
    have hL : ∃ c0 c1 c2 c3 c4 c5, s.data.toList = [c0, c1, c2, c3, c4, c5] := by
      rw [h6] at hls
      match h : s.data.toList, hls with
      | [c0, c1, c2, c3, c4, c5], _ => exact ⟨c0, c1, c2, c3, c4, c5, rfl⟩
    obtain ⟨c0, c1, c2, c3, c4, c5, hL⟩ := hL
    have e0 : s[0] = c0 := by rw [← ba_get s 0 k0]; simp [hL]
    have e3 : s[3] = c3 := by rw [← ba_get s 3 k3]; simp [hL]
    have x0 : ∀ n : Nat, n < 256 → ((((s[0]).toNat : Nat) : Int) = n ↔ c0 = UInt8.ofNat n) := fun n hn => by
      rw [e0]
      constructor
      · intro h; exact u8_eq hn (by omega)
      · rintro rfl; rw [UInt8.toNat_ofNat_of_lt' (by simpa using hn)]
    have x3 : ∀ n : Nat, n < 256 → ((((s[3]).toNat : Nat) : Int) = n ↔ c3 = UInt8.ofNat n) := fun n hn => by
      rw [e3]
      constructor
      · intro h; exact u8_eq hn (by omega)
      · rintro rfl; rw [UInt8.toNat_ofNat_of_lt' (by simpa using hn)]
    have hsix := @rdZ_six c0 c1 c2 c3 c4 c5
    rw [← hL] at hsix
    obtain ⟨A, hA⟩ : ∃ A, s.extract 1 s.size = A := ⟨_, rfl⟩
    obtain ⟨B, hB⟩ : ∃ A, s.extract 4 s.size = A := ⟨_, rfl⟩
    have hAd : A.data.toList = [c1, c2, c3, c4, c5] := by rw [← hA, ex_drop, hL]; rfl
    have hBd : B.data.toList = [c4, c5] := by rw [← hB, ex_drop, hL]; rfl
    have hAs : A.size ≤ 5 := by rw [Lib.size_eq, hAd]; simp
    have hBs : B.size ≤ 5 := by rw [Lib.size_eq, hBd]; simp
    have ba := fun w => rbetween_calls A 0 14 w (by omega)
    have bb := fun w => rbetween_calls B 0 59 w (by omega)
    rw [hAd] at ba
    rw [hBd] at bb
    have r1 : btw [c1, c2, c3, c4, c5] 0 14 ≤ 14 := by unfold btw; split <;> omega
    have r2 : btw [c4, c5] 0 59 ≤ 59 := by unfold btw; split <;> omega
    obtain ⟨h, hh⟩ : ∃ h, h = btw [c1, c2, c3, c4, c5] 0 14 := ⟨_, rfl⟩
    obtain ⟨mi, hmi⟩ : ∃ h, h = btw [c4, c5] 0 59 := ⟨_, rfl⟩
    rw [← hh] at hsix ba r1
    rw [← hmi] at hsix bb r2
    have h6' : (s.size : Int) = 6 := by omega
    by_cases hc : c3 = 58
    · have hc' := (x3 58 (by omega)).2 hc
      by_cases hp : c0 = 43 ∨ c0 = 45
      · by_cases b1 : h < 0
        · have hn : rdZ s.data.toList = none := by rw [hsix, if_pos (.inr (.inr (.inl b1)))]
          rcases hp with hp | hp
          · exact (zo_bhp w g m s n0 n9 k0 k3 h6' hc' ((x0 43 (by omega)).2 hp) A B hA hB h mi ba bb b1 hr).mono fun _ _ h => bad hn h
          · exact (zo_bhm w g m s n0 n9 k0 k3 h6' hc' ((x0 45 (by omega)).2 hp) A B hA hB h mi ba bb b1 hr).mono fun _ _ h => bad hn h
        by_cases b2 : mi < 0
        · have hn : rdZ s.data.toList = none := by rw [hsix, if_pos (.inr (.inr (.inr (.inl b2))))]
          rcases hp with hp | hp
          · exact (zo_bmp w g m s n0 n9 k0 k3 h6' hc' ((x0 43 (by omega)).2 hp) A B hA hB h mi ba bb (by omega) b2 hr).mono fun _ _ h => bad hn h
          · exact (zo_bmm w g m s n0 n9 k0 k3 h6' hc' ((x0 45 (by omega)).2 hp) A B hA hB h mi ba bb (by omega) b2 hr).mono fun _ _ h => bad hn h
        by_cases b3 : h = 14 ∧ mi ≠ 0
        · have hn : rdZ s.data.toList = none := by rw [hsix, if_pos (.inr (.inr (.inr (.inr b3))))]
          rcases hp with hp | hp
          · exact (zo_bxp w g m s n0 n9 k0 k3 h6' hc' ((x0 43 (by omega)).2 hp) A B hA hB h mi ba bb (by omega) (by omega) b3.1 b3.2 hr).mono fun _ _ h => bad hn h
          · exact (zo_bxm w g m s n0 n9 k0 k3 h6' hc' ((x0 45 (by omega)).2 hp) A B hA hB h mi ba bb (by omega) (by omega) b3.1 b3.2 hr).mono fun _ _ h => bad hn h
        · have hn : rdZ s.data.toList = some (true, if c0 = 45 then -60 * h - mi else 60 * h + mi) := by
            rw [hsix, if_neg]
            rintro (e | e | e | e | e)
            · exact e hc
            · rcases hp with hp | hp
              · exact e.1 hp
              · exact e.2 hp
            · exact b1 e
            · exact b2 e
            · exact b3 e
          have good : ∀ {o : Int}, o = (if c0 = 45 then -60 * h - mi else 60 * h + mi) → ∀ {e w'}, (e = Ending.returned (.bool true) ∧ MoAt w' g { m with z := true, o := o } ∧ Below g w w') → ZoPost s.data.toList g m w e w' := fun {o} ho {e w'} q => ⟨true, o, by rw [hn]; exact q.1, q.2.1, q.2.2, fun x hx => by rw [hn] at hx; cases hx; rw [ho]⟩
          by_cases h14 : h = 14
          · have hm0 : mi = 0 := by by_cases q : mi = 0; exact q; exact absurd ⟨h14, q⟩ b3
            rw [h14] at ba
            rw [hm0] at bb
            rcases hp with hp | hp
            · exact (zo_okbp w g m s n0 n9 k0 k3 h6' hc' ((x0 43 (by omega)).2 hp) A B hA hB ba bb hr).mono fun _ _ q => good (by rw [if_neg (by rw [hp]; decide), h14, hm0]; rfl) q
            · exact (zo_okbm w g m s n0 n9 k0 k3 h6' hc' ((x0 45 (by omega)).2 hp) A B hA hB ba bb hr).mono fun _ _ q => good (by rw [if_pos hp, h14, hm0]; rfl) q
          · rcases hp with hp | hp
            · exact (zo_okap w g m s n0 n9 k0 k3 h6' hc' ((x0 43 (by omega)).2 hp) A B hA hB h mi ba bb (by omega) r1 (by omega) r2 h14 hr).mono fun _ _ q => good (by rw [if_neg (by rw [hp]; decide)]) q
            · exact (zo_okam w g m s n0 n9 k0 k3 h6' hc' ((x0 45 (by omega)).2 hp) A B hA hB h mi ba bb (by omega) r1 (by omega) r2 h14 hr).mono fun _ _ q => good (by rw [if_pos hp]; omega) q
      · have hq : c0 ≠ 43 ∧ c0 ≠ 45 := ⟨fun e => hp (.inl e), fun e => hp (.inr e)⟩
        have hn : rdZ s.data.toList = none := by rw [hsix, if_pos (.inr (.inl hq))]
        exact (zo_sgn w g m s n0 n9 k0 k3 h6' hc' (fun e => hq.1 ((x0 43 (by omega)).1 e)) (fun e => hq.2 ((x0 45 (by omega)).1 e)) hr).mono fun _ _ h => bad hn h
    · have hn : rdZ s.data.toList = none := by rw [hsix, if_pos (.inl hc)]
      exact (zo_col w g m s n0 n9 k0 k3 h6' (fun e => hc ((x3 58 (by omega)).1 e)) hr).mono fun _ _ h => bad hn h
  · exact (zo_len w g m s n0 n9 (by omega) hr).mono fun _ _ h => bad (rdZ_len h0 h9 (by rw [hls]; exact h6)) h
end Go.Proofs.YtlhcejbimlilaaaGreatDoor
/- The document's date: walks (written by gen_vdp.py). -/
namespace Go.Proofs.YtlhcejbimlilaaaGreatDoor
open Go.RowKit Go.Tk
set_option maxHeartbeats 2000000 in
theorem da_loe (w : World) (g : Nat) (m : Mo8) (s : ByteArray) (hs : s.size ≤ 4000000000) (h0 : (s.toList == []) = true) (n : Nat) (hrn : ∀ w, Calls Tryz.prog 108 #[.string s] w fun e w' => e = .returned (.int .i64 (n : Nat)) ∧ w = w') (hb : (n : Int) < 4) (hr : MoAt w g m) :
    Calls Tryz.prog 90 #[.pointer (some ⟨g, 0, none⟩), .string s] w fun e w' => e = .returned (.tuple #[.string ⟨#[]⟩, .bool false]) ∧ w = w' := by
  have HRN := Lib.hid hrn
  clear hrn
  clear hr
  go_enter Tryz.func90, Tryz.ntmps90
  go_wp2_with (go_at_call 108; (with_reducible refine (HRN.out _).mono ?_); rintro e' w' ⟨rfl, rfl⟩)
  go_ret2
  exact ⟨rfl, rfl⟩
set_option maxHeartbeats 2000000 in
theorem da_lom (w : World) (g : Nat) (m : Mo8) (s : ByteArray) (hs : s.size ≤ 4000000000) (h0 : 0 < s.size) (he : (s.toList == []) = false) (hc0 : (((s[0]).toNat : Nat) : Int) = 45) (S1 : ByteArray) (hS1 : s.extract 1 s.size = S1) (hss : S1.size ≤ 4000000000) (n : Nat) (hrn : ∀ w, Calls Tryz.prog 108 #[.string S1] w fun e w' => e = .returned (.int .i64 (n : Nat)) ∧ w = w') (hb : (n : Int) < 4) (hr : MoAt w g m) :
    Calls Tryz.prog 90 #[.pointer (some ⟨g, 0, none⟩), .string s] w fun e w' => e = .returned (.tuple #[.string ⟨#[]⟩, .bool false]) ∧ w = w' := by
  have HRN := Lib.hid hrn
  clear hrn
  clear hr
  go_enter Tryz.func90, Tryz.ntmps90
  go_wp2_with (go_at_call 108; (with_reducible refine (HRN.out _).mono ?_); rintro e' w' ⟨rfl, rfl⟩)
  go_ret2
  exact ⟨rfl, rfl⟩
set_option maxHeartbeats 2000000 in
theorem da_him (w : World) (g : Nat) (m : Mo8) (s : ByteArray) (hs : s.size ≤ 4000000000) (h0 : 0 < s.size) (he : (s.toList == []) = false) (hc0 : (((s[0]).toNat : Nat) : Int) = 45) (S1 : ByteArray) (hS1 : s.extract 1 s.size = S1) (hss : S1.size ≤ 4000000000) (n : Nat) (hrn : ∀ w, Calls Tryz.prog 108 #[.string S1] w fun e w' => e = .returned (.int .i64 (n : Nat)) ∧ w = w') (hb : 9 < (n : Int)) (hb2 : 4 ≤ (n : Int)) (hr : MoAt w g m) :
    Calls Tryz.prog 90 #[.pointer (some ⟨g, 0, none⟩), .string s] w fun e w' => e = .returned (.tuple #[.string ⟨#[]⟩, .bool false]) ∧ w = w' := by
  have HRN := Lib.hid hrn
  clear hrn
  clear hr
  go_enter Tryz.func90, Tryz.ntmps90
  go_wp2_with (go_at_call 108; (with_reducible refine (HRN.out _).mono ?_); rintro e' w' ⟨rfl, rfl⟩)
  go_ret2
  exact ⟨rfl, rfl⟩
set_option maxHeartbeats 2000000 in
theorem da_zm (w : World) (g : Nat) (m : Mo8) (s : ByteArray) (hs : s.size ≤ 4000000000) (h0 : 0 < s.size) (he : (s.toList == []) = false) (hc0 : (((s[0]).toNat : Nat) : Int) = 45) (S1 : ByteArray) (hS1 : s.extract 1 s.size = S1) (hss : S1.size ≤ 4000000000) (n : Nat) (hrn : ∀ w, Calls Tryz.prog 108 #[.string S1] w fun e w' => e = .returned (.int .i64 (n : Nat)) ∧ w = w') (k0 : 0 < S1.size) (hb : (n : Int) ≤ 9) (hb2 : 4 < (n : Int)) (hb3 : 4 ≤ (n : Int)) (hz : (((S1[0]).toNat : Nat) : Int) = 48) (hr : MoAt w g m) :
    Calls Tryz.prog 90 #[.pointer (some ⟨g, 0, none⟩), .string s] w fun e w' => e = .returned (.tuple #[.string ⟨#[]⟩, .bool false]) ∧ w = w' := by
  have HRN := Lib.hid hrn
  clear hrn
  clear hr
  go_enter Tryz.func90, Tryz.ntmps90
  go_wp2_with (go_at_call 108; (with_reducible refine (HRN.out _).mono ?_); rintro e' w' ⟨rfl, rfl⟩)
  go_ret2
  exact ⟨rfl, rfl⟩
set_option maxHeartbeats 2000000 in
theorem da_lma (w : World) (g : Nat) (m : Mo8) (s : ByteArray) (hs : s.size ≤ 4000000000) (h0 : 0 < s.size) (he : (s.toList == []) = false) (hc0 : (((s[0]).toNat : Nat) : Int) = 45) (S1 : ByteArray) (hS1 : s.extract 1 s.size = S1) (hss : S1.size ≤ 4000000000) (n : Nat) (hrn : ∀ w, Calls Tryz.prog 108 #[.string S1] w fun e w' => e = .returned (.int .i64 (n : Nat)) ∧ w = w') (hb : 4 ≤ (n : Int)) (hb2 : (n : Int) ≤ 9) (hb3 : (n : Int) ≤ 4) (hnl : n ≤ S1.size) (P S2 : ByteArray) (hP : S1.extract 0 n = P) (hS2 : S1.extract n S1.size = S2) (hs2 : S2.size ≤ 4000000000) (Y : Int) (hsm : ∀ w, Calls Tryz.prog 110 #[.string P] w fun e w' => e = .returned (.int .i64 Y) ∧ Below w.heap.size w w') (hY0 : -2000000000 ≤ Y) (hY1 : Y ≤ 2000000000) (hl : (S2.size : Int) < 6) (hr : MoAt w g m) :
    Calls Tryz.prog 90 #[.pointer (some ⟨g, 0, none⟩), .string s] w fun e w' => e = .returned (.tuple #[.string ⟨#[]⟩, .bool false]) ∧ MoAt w' g { m with y := (-Y) } ∧ Below g w w' := by
  have HRN := Lib.hid hrn
  clear hrn
  have HSM := Lib.hid hsm
  clear hsm
  have HR := Lib.hid hr
  clear hr
  have kY : IntKind.i64.wrap (-Y) = -Y := by rw [IntKind.wrap_i64]; omega
  go_enter Tryz.func90, Tryz.ntmps90
  go_upto_region 7 with (go_at_call 108; (with_reducible refine (HRN.out _).mono ?_); rintro e' w' ⟨rfl, rfl⟩)
  have c0 := row_cell HR.out 0
  have fz := HR.out.froz
  simp [Mo8.cells] at c0
  go_upto_region 8 with (go_at_call 110; (with_reducible refine (HSM.out _).mono ?_); rintro e' w2 ⟨rfl, hbx⟩; (have R2 := HR.out.next hbx); (have c0' := row_cell R2 0); (have fz' := R2.froz); (simp [Mo8.cells] at c0'))
  have B2 : Below g w w2 := hbx.mono (Nat.le_of_lt HR.out.lt)
  have R3 : MoAt (w2.setCell ⟨g, 0, none⟩ (.int .i64 Y)) g { m with y := Y } := R2.set 0 _ rfl
  have B3 : Below g w (w2.setCell ⟨g, 0, none⟩ (.int .i64 Y)) := bel_set B2 0 _
  generalize World.setCell w2 _ _ = w3 at R3 B3 ⊢
  clear c0 fz c0' fz' R2 B2 hbx HR
  have c0 := row_cell R3 0
  have fz := R3.froz
  simp [Mo8.cells] at c0
  go_upto_region 10 with fail
  have R4 : MoAt (w3.setCell ⟨g, 0, none⟩ (.int .i64 (-Y))) g { m with y := -Y } := R3.set 0 _ rfl
  have B4 : Below g w (w3.setCell ⟨g, 0, none⟩ (.int .i64 (-Y))) := bel_set B3 0 _
  generalize World.setCell w3 _ _ = w4 at R4 B4 ⊢
  clear c0 fz R3 B3
  have HR4 := Lib.hid R4
  have HB4 := Lib.hid B4
  clear R4 B4
  go_wp2_with fail
  go_ret2
  exact ⟨rfl, HR4.out, HB4.out⟩
set_option maxHeartbeats 2000000 in
theorem da_cma (w : World) (g : Nat) (m : Mo8) (s : ByteArray) (hs : s.size ≤ 4000000000) (h0 : 0 < s.size) (he : (s.toList == []) = false) (hc0 : (((s[0]).toNat : Nat) : Int) = 45) (S1 : ByteArray) (hS1 : s.extract 1 s.size = S1) (hss : S1.size ≤ 4000000000) (n : Nat) (hrn : ∀ w, Calls Tryz.prog 108 #[.string S1] w fun e w' => e = .returned (.int .i64 (n : Nat)) ∧ w = w') (hb : 4 ≤ (n : Int)) (hb2 : (n : Int) ≤ 9) (hb3 : (n : Int) ≤ 4) (hnl : n ≤ S1.size) (P S2 : ByteArray) (hP : S1.extract 0 n = P) (hS2 : S1.extract n S1.size = S2) (hs2 : S2.size ≤ 4000000000) (Y : Int) (hsm : ∀ w, Calls Tryz.prog 110 #[.string P] w fun e w' => e = .returned (.int .i64 Y) ∧ Below w.heap.size w w') (hY0 : -2000000000 ≤ Y) (hY1 : Y ≤ 2000000000) (l0 : 0 < S2.size) (l3 : 3 < S2.size) (hl : 6 ≤ (S2.size : Int)) (q0 : (((S2[0]).toNat : Nat) : Int) ≠ 45) (hr : MoAt w g m) :
    Calls Tryz.prog 90 #[.pointer (some ⟨g, 0, none⟩), .string s] w fun e w' => e = .returned (.tuple #[.string ⟨#[]⟩, .bool false]) ∧ MoAt w' g { m with y := (-Y) } ∧ Below g w w' := by
  have q0b : ((((S2[0]).toNat : Nat) : Int) != 45) = true := bne_iff_ne.2 q0
  have HRN := Lib.hid hrn
  clear hrn
  have HSM := Lib.hid hsm
  clear hsm
  have HR := Lib.hid hr
  clear hr
  have kY : IntKind.i64.wrap (-Y) = -Y := by rw [IntKind.wrap_i64]; omega
  go_enter Tryz.func90, Tryz.ntmps90
  go_upto_region 7 with (go_at_call 108; (with_reducible refine (HRN.out _).mono ?_); rintro e' w' ⟨rfl, rfl⟩)
  have c0 := row_cell HR.out 0
  have fz := HR.out.froz
  simp [Mo8.cells] at c0
  go_upto_region 8 with (go_at_call 110; (with_reducible refine (HSM.out _).mono ?_); rintro e' w2 ⟨rfl, hbx⟩; (have R2 := HR.out.next hbx); (have c0' := row_cell R2 0); (have fz' := R2.froz); (simp [Mo8.cells] at c0'))
  have B2 : Below g w w2 := hbx.mono (Nat.le_of_lt HR.out.lt)
  have R3 : MoAt (w2.setCell ⟨g, 0, none⟩ (.int .i64 Y)) g { m with y := Y } := R2.set 0 _ rfl
  have B3 : Below g w (w2.setCell ⟨g, 0, none⟩ (.int .i64 Y)) := bel_set B2 0 _
  generalize World.setCell w2 _ _ = w3 at R3 B3 ⊢
  clear c0 fz c0' fz' R2 B2 hbx HR
  have c0 := row_cell R3 0
  have fz := R3.froz
  simp [Mo8.cells] at c0
  go_upto_region 10 with fail
  have R4 : MoAt (w3.setCell ⟨g, 0, none⟩ (.int .i64 (-Y))) g { m with y := -Y } := R3.set 0 _ rfl
  have B4 : Below g w (w3.setCell ⟨g, 0, none⟩ (.int .i64 (-Y))) := bel_set B3 0 _
  generalize World.setCell w3 _ _ = w4 at R4 B4 ⊢
  clear c0 fz R3 B3
  have HR4 := Lib.hid R4
  have HB4 := Lib.hid B4
  clear R4 B4
  go_wp2_with fail
  go_ret2
  exact ⟨rfl, HR4.out, HB4.out⟩
set_option maxHeartbeats 2000000 in
theorem da_dma (w : World) (g : Nat) (m : Mo8) (s : ByteArray) (hs : s.size ≤ 4000000000) (h0 : 0 < s.size) (he : (s.toList == []) = false) (hc0 : (((s[0]).toNat : Nat) : Int) = 45) (S1 : ByteArray) (hS1 : s.extract 1 s.size = S1) (hss : S1.size ≤ 4000000000) (n : Nat) (hrn : ∀ w, Calls Tryz.prog 108 #[.string S1] w fun e w' => e = .returned (.int .i64 (n : Nat)) ∧ w = w') (hb : 4 ≤ (n : Int)) (hb2 : (n : Int) ≤ 9) (hb3 : (n : Int) ≤ 4) (hnl : n ≤ S1.size) (P S2 : ByteArray) (hP : S1.extract 0 n = P) (hS2 : S1.extract n S1.size = S2) (hs2 : S2.size ≤ 4000000000) (Y : Int) (hsm : ∀ w, Calls Tryz.prog 110 #[.string P] w fun e w' => e = .returned (.int .i64 Y) ∧ Below w.heap.size w w') (hY0 : -2000000000 ≤ Y) (hY1 : Y ≤ 2000000000) (l0 : 0 < S2.size) (l3 : 3 < S2.size) (hl : 6 ≤ (S2.size : Int)) (q0 : (((S2[0]).toNat : Nat) : Int) = 45) (q3 : (((S2[3]).toNat : Nat) : Int) ≠ 45) (hr : MoAt w g m) :
    Calls Tryz.prog 90 #[.pointer (some ⟨g, 0, none⟩), .string s] w fun e w' => e = .returned (.tuple #[.string ⟨#[]⟩, .bool false]) ∧ MoAt w' g { m with y := (-Y) } ∧ Below g w w' := by
  have q3b : ((((S2[3]).toNat : Nat) : Int) != 45) = true := bne_iff_ne.2 q3
  have HRN := Lib.hid hrn
  clear hrn
  have HSM := Lib.hid hsm
  clear hsm
  have HR := Lib.hid hr
  clear hr
  have kY : IntKind.i64.wrap (-Y) = -Y := by rw [IntKind.wrap_i64]; omega
  go_enter Tryz.func90, Tryz.ntmps90
  go_upto_region 7 with (go_at_call 108; (with_reducible refine (HRN.out _).mono ?_); rintro e' w' ⟨rfl, rfl⟩)
  have c0 := row_cell HR.out 0
  have fz := HR.out.froz
  simp [Mo8.cells] at c0
  go_upto_region 8 with (go_at_call 110; (with_reducible refine (HSM.out _).mono ?_); rintro e' w2 ⟨rfl, hbx⟩; (have R2 := HR.out.next hbx); (have c0' := row_cell R2 0); (have fz' := R2.froz); (simp [Mo8.cells] at c0'))
  have B2 : Below g w w2 := hbx.mono (Nat.le_of_lt HR.out.lt)
  have R3 : MoAt (w2.setCell ⟨g, 0, none⟩ (.int .i64 Y)) g { m with y := Y } := R2.set 0 _ rfl
  have B3 : Below g w (w2.setCell ⟨g, 0, none⟩ (.int .i64 Y)) := bel_set B2 0 _
  generalize World.setCell w2 _ _ = w3 at R3 B3 ⊢
  clear c0 fz c0' fz' R2 B2 hbx HR
  have c0 := row_cell R3 0
  have fz := R3.froz
  simp [Mo8.cells] at c0
  go_upto_region 10 with fail
  have R4 : MoAt (w3.setCell ⟨g, 0, none⟩ (.int .i64 (-Y))) g { m with y := -Y } := R3.set 0 _ rfl
  have B4 : Below g w (w3.setCell ⟨g, 0, none⟩ (.int .i64 (-Y))) := bel_set B3 0 _
  generalize World.setCell w3 _ _ = w4 at R4 B4 ⊢
  clear c0 fz R3 B3
  have HR4 := Lib.hid R4
  have HB4 := Lib.hid B4
  clear R4 B4
  go_wp2_with fail
  go_ret2
  exact ⟨rfl, HR4.out, HB4.out⟩
set_option maxHeartbeats 2000000 in
theorem da_mma (w : World) (g : Nat) (m : Mo8) (s : ByteArray) (hs : s.size ≤ 4000000000) (h0 : 0 < s.size) (he : (s.toList == []) = false) (hc0 : (((s[0]).toNat : Nat) : Int) = 45) (S1 : ByteArray) (hS1 : s.extract 1 s.size = S1) (hss : S1.size ≤ 4000000000) (n : Nat) (hrn : ∀ w, Calls Tryz.prog 108 #[.string S1] w fun e w' => e = .returned (.int .i64 (n : Nat)) ∧ w = w') (hb : 4 ≤ (n : Int)) (hb2 : (n : Int) ≤ 9) (hb3 : (n : Int) ≤ 4) (hnl : n ≤ S1.size) (P S2 : ByteArray) (hP : S1.extract 0 n = P) (hS2 : S1.extract n S1.size = S2) (hs2 : S2.size ≤ 4000000000) (Y : Int) (hsm : ∀ w, Calls Tryz.prog 110 #[.string P] w fun e w' => e = .returned (.int .i64 Y) ∧ Below w.heap.size w w') (hY0 : -2000000000 ≤ Y) (hY1 : Y ≤ 2000000000) (l0 : 0 < S2.size) (l3 : 3 < S2.size) (hl : 6 ≤ (S2.size : Int)) (q0 : (((S2[0]).toNat : Nat) : Int) = 45) (q3 : (((S2[3]).toNat : Nat) : Int) = 45) (AQ : ByteArray) (hAQ : S2.extract 1 S2.size = AQ) (M : Int) (hM : ∀ w, Calls Tryz.prog 130 #[.string AQ, .int .i64 1, .int .i64 12] w fun e w' => e = .returned (.int .i64 M) ∧ Below w.heap.size w w') (bM : M < 0) (hr : MoAt w g m) :
    Calls Tryz.prog 90 #[.pointer (some ⟨g, 0, none⟩), .string s] w fun e w' => e = .returned (.tuple #[.string ⟨#[]⟩, .bool false]) ∧ MoAt w' g { m with y := (-Y), mo := M } ∧ Below g w w' := by
  have HM := Lib.hid hM
  clear hM
  have HRN := Lib.hid hrn
  clear hrn
  have HSM := Lib.hid hsm
  clear hsm
  have HR := Lib.hid hr
  clear hr
  have kY : IntKind.i64.wrap (-Y) = -Y := by rw [IntKind.wrap_i64]; omega
  go_enter Tryz.func90, Tryz.ntmps90
  go_upto_region 7 with (go_at_call 108; (with_reducible refine (HRN.out _).mono ?_); rintro e' w' ⟨rfl, rfl⟩)
  have c0 := row_cell HR.out 0
  have fz := HR.out.froz
  simp [Mo8.cells] at c0
  go_upto_region 8 with (go_at_call 110; (with_reducible refine (HSM.out _).mono ?_); rintro e' w2 ⟨rfl, hbx⟩; (have R2 := HR.out.next hbx); (have c0' := row_cell R2 0); (have fz' := R2.froz); (simp [Mo8.cells] at c0'))
  have B2 : Below g w w2 := hbx.mono (Nat.le_of_lt HR.out.lt)
  have R3 : MoAt (w2.setCell ⟨g, 0, none⟩ (.int .i64 Y)) g { m with y := Y } := R2.set 0 _ rfl
  have B3 : Below g w (w2.setCell ⟨g, 0, none⟩ (.int .i64 Y)) := bel_set B2 0 _
  generalize World.setCell w2 _ _ = w3 at R3 B3 ⊢
  clear c0 fz c0' fz' R2 B2 hbx HR
  have c0 := row_cell R3 0
  have fz := R3.froz
  simp [Mo8.cells] at c0
  go_upto_region 10 with fail
  have R4 : MoAt (w3.setCell ⟨g, 0, none⟩ (.int .i64 (-Y))) g { m with y := -Y } := R3.set 0 _ rfl
  have B4 : Below g w (w3.setCell ⟨g, 0, none⟩ (.int .i64 (-Y))) := bel_set B3 0 _
  generalize World.setCell w3 _ _ = w4 at R4 B4 ⊢
  clear c0 fz R3 B3
  have c1 := row_cell R4 1
  have fz := R4.froz
  simp [Mo8.cells] at c1
  have HR4 := Lib.hid R4
  have HB4 := Lib.hid B4
  clear R4 B4
  go_upto_region 14 with (go_at_call 130; (with_reducible refine (HM.out _).mono ?_); rintro e' w5 ⟨rfl, hbx⟩; (have R5 := HR4.out.next hbx); (have c1' := row_cell R5 1); (have fz' := R5.froz); (simp [Mo8.cells] at c1'))
  have B5 : Below g w w5 := HB4.out.trans (hbx.mono (Nat.le_of_lt HR4.out.lt))
  have R6 : MoAt (w5.setCell ⟨g, 1, none⟩ (.int .i64 M)) g { m with y := (-Y), mo := M } := R5.set 1 _ rfl
  have B6 : Below g w (w5.setCell ⟨g, 1, none⟩ (.int .i64 M)) := bel_set B5 1 _
  generalize World.setCell w5 _ _ = w6 at R6 B6 ⊢
  clear c1 fz c1' fz' R5 B5 hbx HR4 HB4
  have c0 := row_cell R6 0
  have c1 := row_cell R6 1
  have c2 := row_cell R6 2
  have fz := R6.froz
  simp [Mo8.cells] at c0 c1 c2
  have HR6 := Lib.hid R6
  have HB6 := Lib.hid B6
  clear R6 B6
  go_wp2_with fail
  go_ret2
  exact ⟨rfl, HR6.out, HB6.out⟩
set_option maxHeartbeats 2000000 in
theorem da_kma (w : World) (g : Nat) (m : Mo8) (s : ByteArray) (hs : s.size ≤ 4000000000) (h0 : 0 < s.size) (he : (s.toList == []) = false) (hc0 : (((s[0]).toNat : Nat) : Int) = 45) (S1 : ByteArray) (hS1 : s.extract 1 s.size = S1) (hss : S1.size ≤ 4000000000) (n : Nat) (hrn : ∀ w, Calls Tryz.prog 108 #[.string S1] w fun e w' => e = .returned (.int .i64 (n : Nat)) ∧ w = w') (hb : 4 ≤ (n : Int)) (hb2 : (n : Int) ≤ 9) (hb3 : (n : Int) ≤ 4) (hnl : n ≤ S1.size) (P S2 : ByteArray) (hP : S1.extract 0 n = P) (hS2 : S1.extract n S1.size = S2) (hs2 : S2.size ≤ 4000000000) (Y : Int) (hsm : ∀ w, Calls Tryz.prog 110 #[.string P] w fun e w' => e = .returned (.int .i64 Y) ∧ Below w.heap.size w w') (hY0 : -2000000000 ≤ Y) (hY1 : Y ≤ 2000000000) (l0 : 0 < S2.size) (l3 : 3 < S2.size) (hl : 6 ≤ (S2.size : Int)) (q0 : (((S2[0]).toNat : Nat) : Int) = 45) (q3 : (((S2[3]).toNat : Nat) : Int) = 45) (AQ : ByteArray) (hAQ : S2.extract 1 S2.size = AQ) (M : Int) (hM : ∀ w, Calls Tryz.prog 130 #[.string AQ, .int .i64 1, .int .i64 12] w fun e w' => e = .returned (.int .i64 M) ∧ Below w.heap.size w w') (bM : 0 ≤ M) (DQ RQ : ByteArray) (hDQ : S2.extract 4 S2.size = DQ) (hRQ : S2.extract 6 S2.size = RQ) (dm D : Int) (hdy : ∀ w, Calls Tryz.prog 131 #[.int .i64 (-Y), .int .i64 M] w fun e w' => e = .returned (.int .i64 dm) ∧ Below w.heap.size w w') (hD : ∀ w, Calls Tryz.prog 130 #[.string DQ, .int .i64 1, .int .i64 dm] w fun e w' => e = .returned (.int .i64 D) ∧ Below w.heap.size w w') (hr : MoAt w g m) :
    Calls Tryz.prog 90 #[.pointer (some ⟨g, 0, none⟩), .string s] w fun e w' => e = .returned (.tuple #[.string RQ, .bool (decide (0 < D))]) ∧ MoAt w' g { m with y := (-Y), mo := M, d := D } ∧ Below g w w' := by
  have HM := Lib.hid hM
  clear hM
  have HDY := Lib.hid hdy
  have HD := Lib.hid hD
  clear hdy hD
  have HRN := Lib.hid hrn
  clear hrn
  have HSM := Lib.hid hsm
  clear hsm
  have HR := Lib.hid hr
  clear hr
  have kY : IntKind.i64.wrap (-Y) = -Y := by rw [IntKind.wrap_i64]; omega
  go_enter Tryz.func90, Tryz.ntmps90
  go_upto_region 7 with (go_at_call 108; (with_reducible refine (HRN.out _).mono ?_); rintro e' w' ⟨rfl, rfl⟩)
  have c0 := row_cell HR.out 0
  have fz := HR.out.froz
  simp [Mo8.cells] at c0
  go_upto_region 8 with (go_at_call 110; (with_reducible refine (HSM.out _).mono ?_); rintro e' w2 ⟨rfl, hbx⟩; (have R2 := HR.out.next hbx); (have c0' := row_cell R2 0); (have fz' := R2.froz); (simp [Mo8.cells] at c0'))
  have B2 : Below g w w2 := hbx.mono (Nat.le_of_lt HR.out.lt)
  have R3 : MoAt (w2.setCell ⟨g, 0, none⟩ (.int .i64 Y)) g { m with y := Y } := R2.set 0 _ rfl
  have B3 : Below g w (w2.setCell ⟨g, 0, none⟩ (.int .i64 Y)) := bel_set B2 0 _
  generalize World.setCell w2 _ _ = w3 at R3 B3 ⊢
  clear c0 fz c0' fz' R2 B2 hbx HR
  have c0 := row_cell R3 0
  have fz := R3.froz
  simp [Mo8.cells] at c0
  go_upto_region 10 with fail
  have R4 : MoAt (w3.setCell ⟨g, 0, none⟩ (.int .i64 (-Y))) g { m with y := -Y } := R3.set 0 _ rfl
  have B4 : Below g w (w3.setCell ⟨g, 0, none⟩ (.int .i64 (-Y))) := bel_set B3 0 _
  generalize World.setCell w3 _ _ = w4 at R4 B4 ⊢
  clear c0 fz R3 B3
  have c1 := row_cell R4 1
  have fz := R4.froz
  simp [Mo8.cells] at c1
  have HR4 := Lib.hid R4
  have HB4 := Lib.hid B4
  clear R4 B4
  go_upto_region 14 with (go_at_call 130; (with_reducible refine (HM.out _).mono ?_); rintro e' w5 ⟨rfl, hbx⟩; (have R5 := HR4.out.next hbx); (have c1' := row_cell R5 1); (have fz' := R5.froz); (simp [Mo8.cells] at c1'))
  have B5 : Below g w w5 := HB4.out.trans (hbx.mono (Nat.le_of_lt HR4.out.lt))
  have R6 : MoAt (w5.setCell ⟨g, 1, none⟩ (.int .i64 M)) g { m with y := (-Y), mo := M } := R5.set 1 _ rfl
  have B6 : Below g w (w5.setCell ⟨g, 1, none⟩ (.int .i64 M)) := bel_set B5 1 _
  generalize World.setCell w5 _ _ = w6 at R6 B6 ⊢
  clear c1 fz c1' fz' R5 B5 hbx HR4 HB4
  have c0 := row_cell R6 0
  have c1 := row_cell R6 1
  have c2 := row_cell R6 2
  have fz := R6.froz
  simp [Mo8.cells] at c0 c1 c2
  have HR6 := Lib.hid R6
  have HB6 := Lib.hid B6
  clear R6 B6
  go_upto_region 16 with fail
  clear c0 c1 c2 fz
  have rx := HR6.out
  have q1 := Lw.row rx
  have x0 := fun x => (row_cell (q1 x) 0)
  have x1 := fun x => (row_cell (q1 x) 1)
  simp [Mo8.cells] at x0 x1
  clear q1 rx
  refine wp_region_lw_tail 15 (by kernel_rfl) (by kernel_rfl) ?_
  simp only [List.take_succ_cons, List.take_zero, List.drop_succ_cons, List.drop_zero]
  repeat (go_big_quiet_step (first | exact rfl | (go_at_call 131; with_reducible exact lw_call (HDY.out _)) | (go_at_call 130; with_reducible exact lw_call (HD.out _))))
  refine wpQuiet_nil ?_
  rintro ⟨w7, hb7⟩
  dsimp only
  clear x0 x1
  have R7 := HR6.out.next hb7
  have B7 : Below g w w7 := HB6.out.trans (hb7.mono (Nat.le_of_lt HR6.out.lt))
  have c2 := row_cell R7 2
  have fz := R7.froz
  simp [Mo8.cells] at c2
  have R8 : MoAt (w7.setCell ⟨g, 2, none⟩ (.int .i64 D)) g { m with y := (-Y), mo := M, d := D } := R7.set 2 _ rfl
  have B8 : Below g w (w7.setCell ⟨g, 2, none⟩ (.int .i64 D)) := bel_set B7 2 _
  go_upto_region 17 with fail
  generalize World.setCell w7 _ _ = w8 at R8 B8 ⊢
  clear c2 fz R7 B7 hb7
  have q2 := Lw.row R8
  have x2 := fun x => (row_cell (q2 x) 2)
  simp [Mo8.cells] at x2
  clear q2
  refine wp_region_lw (by kernel_rfl) (by kernel_rfl) ?_
  repeat (go_big_quiet_step (first | exact rfl))
  refine wpQuiet_nil ?_
  rintro ⟨w9, hb9⟩
  dsimp only
  have R9 := R8.next hb9
  have B9 : Below g w w9 := B8.trans (hb9.mono (Nat.le_of_lt R8.lt))
  clear x2 hb9 R8 B8
  have HR9 := Lib.hid R9
  have HB9 := Lib.hid B9
  clear R9 B9
  go_wp2_with fail
  go_ret2
  exact ⟨rfl, HR9.out, HB9.out⟩
set_option maxHeartbeats 2000000 in
theorem da_lmb (w : World) (g : Nat) (m : Mo8) (s : ByteArray) (hs : s.size ≤ 4000000000) (h0 : 0 < s.size) (he : (s.toList == []) = false) (hc0 : (((s[0]).toNat : Nat) : Int) = 45) (S1 : ByteArray) (hS1 : s.extract 1 s.size = S1) (hss : S1.size ≤ 4000000000) (n : Nat) (hrn : ∀ w, Calls Tryz.prog 108 #[.string S1] w fun e w' => e = .returned (.int .i64 (n : Nat)) ∧ w = w') (hb : 4 ≤ (n : Int)) (hb2 : (n : Int) ≤ 9) (k0 : 0 < S1.size) (hb3 : 4 < (n : Int)) (hz : (((S1[0]).toNat : Nat) : Int) ≠ 48) (hnl : n ≤ S1.size) (P S2 : ByteArray) (hP : S1.extract 0 n = P) (hS2 : S1.extract n S1.size = S2) (hs2 : S2.size ≤ 4000000000) (Y : Int) (hsm : ∀ w, Calls Tryz.prog 110 #[.string P] w fun e w' => e = .returned (.int .i64 Y) ∧ Below w.heap.size w w') (hY0 : -2000000000 ≤ Y) (hY1 : Y ≤ 2000000000) (hl : (S2.size : Int) < 6) (hr : MoAt w g m) :
    Calls Tryz.prog 90 #[.pointer (some ⟨g, 0, none⟩), .string s] w fun e w' => e = .returned (.tuple #[.string ⟨#[]⟩, .bool false]) ∧ MoAt w' g { m with y := (-Y) } ∧ Below g w w' := by
  have HRN := Lib.hid hrn
  clear hrn
  have HSM := Lib.hid hsm
  clear hsm
  have HR := Lib.hid hr
  clear hr
  have kY : IntKind.i64.wrap (-Y) = -Y := by rw [IntKind.wrap_i64]; omega
  have hzb : ((((S1[0]).toNat : Nat) : Int) == 48) = false := beq_false_of_ne hz
  go_enter Tryz.func90, Tryz.ntmps90
  go_upto_region 7 with (go_at_call 108; (with_reducible refine (HRN.out _).mono ?_); rintro e' w' ⟨rfl, rfl⟩)
  have c0 := row_cell HR.out 0
  have fz := HR.out.froz
  simp [Mo8.cells] at c0
  go_upto_region 8 with (go_at_call 110; (with_reducible refine (HSM.out _).mono ?_); rintro e' w2 ⟨rfl, hbx⟩; (have R2 := HR.out.next hbx); (have c0' := row_cell R2 0); (have fz' := R2.froz); (simp [Mo8.cells] at c0'))
  have B2 : Below g w w2 := hbx.mono (Nat.le_of_lt HR.out.lt)
  have R3 : MoAt (w2.setCell ⟨g, 0, none⟩ (.int .i64 Y)) g { m with y := Y } := R2.set 0 _ rfl
  have B3 : Below g w (w2.setCell ⟨g, 0, none⟩ (.int .i64 Y)) := bel_set B2 0 _
  generalize World.setCell w2 _ _ = w3 at R3 B3 ⊢
  clear c0 fz c0' fz' R2 B2 hbx HR
  have c0 := row_cell R3 0
  have fz := R3.froz
  simp [Mo8.cells] at c0
  go_upto_region 10 with fail
  have R4 : MoAt (w3.setCell ⟨g, 0, none⟩ (.int .i64 (-Y))) g { m with y := -Y } := R3.set 0 _ rfl
  have B4 : Below g w (w3.setCell ⟨g, 0, none⟩ (.int .i64 (-Y))) := bel_set B3 0 _
  generalize World.setCell w3 _ _ = w4 at R4 B4 ⊢
  clear c0 fz R3 B3
  have HR4 := Lib.hid R4
  have HB4 := Lib.hid B4
  clear R4 B4
  go_wp2_with fail
  go_ret2
  exact ⟨rfl, HR4.out, HB4.out⟩
set_option maxHeartbeats 2000000 in
theorem da_cmb (w : World) (g : Nat) (m : Mo8) (s : ByteArray) (hs : s.size ≤ 4000000000) (h0 : 0 < s.size) (he : (s.toList == []) = false) (hc0 : (((s[0]).toNat : Nat) : Int) = 45) (S1 : ByteArray) (hS1 : s.extract 1 s.size = S1) (hss : S1.size ≤ 4000000000) (n : Nat) (hrn : ∀ w, Calls Tryz.prog 108 #[.string S1] w fun e w' => e = .returned (.int .i64 (n : Nat)) ∧ w = w') (hb : 4 ≤ (n : Int)) (hb2 : (n : Int) ≤ 9) (k0 : 0 < S1.size) (hb3 : 4 < (n : Int)) (hz : (((S1[0]).toNat : Nat) : Int) ≠ 48) (hnl : n ≤ S1.size) (P S2 : ByteArray) (hP : S1.extract 0 n = P) (hS2 : S1.extract n S1.size = S2) (hs2 : S2.size ≤ 4000000000) (Y : Int) (hsm : ∀ w, Calls Tryz.prog 110 #[.string P] w fun e w' => e = .returned (.int .i64 Y) ∧ Below w.heap.size w w') (hY0 : -2000000000 ≤ Y) (hY1 : Y ≤ 2000000000) (l0 : 0 < S2.size) (l3 : 3 < S2.size) (hl : 6 ≤ (S2.size : Int)) (q0 : (((S2[0]).toNat : Nat) : Int) ≠ 45) (hr : MoAt w g m) :
    Calls Tryz.prog 90 #[.pointer (some ⟨g, 0, none⟩), .string s] w fun e w' => e = .returned (.tuple #[.string ⟨#[]⟩, .bool false]) ∧ MoAt w' g { m with y := (-Y) } ∧ Below g w w' := by
  have q0b : ((((S2[0]).toNat : Nat) : Int) != 45) = true := bne_iff_ne.2 q0
  have HRN := Lib.hid hrn
  clear hrn
  have HSM := Lib.hid hsm
  clear hsm
  have HR := Lib.hid hr
  clear hr
  have kY : IntKind.i64.wrap (-Y) = -Y := by rw [IntKind.wrap_i64]; omega
  have hzb : ((((S1[0]).toNat : Nat) : Int) == 48) = false := beq_false_of_ne hz
  go_enter Tryz.func90, Tryz.ntmps90
  go_upto_region 7 with (go_at_call 108; (with_reducible refine (HRN.out _).mono ?_); rintro e' w' ⟨rfl, rfl⟩)
  have c0 := row_cell HR.out 0
  have fz := HR.out.froz
  simp [Mo8.cells] at c0
  go_upto_region 8 with (go_at_call 110; (with_reducible refine (HSM.out _).mono ?_); rintro e' w2 ⟨rfl, hbx⟩; (have R2 := HR.out.next hbx); (have c0' := row_cell R2 0); (have fz' := R2.froz); (simp [Mo8.cells] at c0'))
  have B2 : Below g w w2 := hbx.mono (Nat.le_of_lt HR.out.lt)
  have R3 : MoAt (w2.setCell ⟨g, 0, none⟩ (.int .i64 Y)) g { m with y := Y } := R2.set 0 _ rfl
  have B3 : Below g w (w2.setCell ⟨g, 0, none⟩ (.int .i64 Y)) := bel_set B2 0 _
  generalize World.setCell w2 _ _ = w3 at R3 B3 ⊢
  clear c0 fz c0' fz' R2 B2 hbx HR
  have c0 := row_cell R3 0
  have fz := R3.froz
  simp [Mo8.cells] at c0
  go_upto_region 10 with fail
  have R4 : MoAt (w3.setCell ⟨g, 0, none⟩ (.int .i64 (-Y))) g { m with y := -Y } := R3.set 0 _ rfl
  have B4 : Below g w (w3.setCell ⟨g, 0, none⟩ (.int .i64 (-Y))) := bel_set B3 0 _
  generalize World.setCell w3 _ _ = w4 at R4 B4 ⊢
  clear c0 fz R3 B3
  have HR4 := Lib.hid R4
  have HB4 := Lib.hid B4
  clear R4 B4
  go_wp2_with fail
  go_ret2
  exact ⟨rfl, HR4.out, HB4.out⟩
set_option maxHeartbeats 2000000 in
theorem da_dmb (w : World) (g : Nat) (m : Mo8) (s : ByteArray) (hs : s.size ≤ 4000000000) (h0 : 0 < s.size) (he : (s.toList == []) = false) (hc0 : (((s[0]).toNat : Nat) : Int) = 45) (S1 : ByteArray) (hS1 : s.extract 1 s.size = S1) (hss : S1.size ≤ 4000000000) (n : Nat) (hrn : ∀ w, Calls Tryz.prog 108 #[.string S1] w fun e w' => e = .returned (.int .i64 (n : Nat)) ∧ w = w') (hb : 4 ≤ (n : Int)) (hb2 : (n : Int) ≤ 9) (k0 : 0 < S1.size) (hb3 : 4 < (n : Int)) (hz : (((S1[0]).toNat : Nat) : Int) ≠ 48) (hnl : n ≤ S1.size) (P S2 : ByteArray) (hP : S1.extract 0 n = P) (hS2 : S1.extract n S1.size = S2) (hs2 : S2.size ≤ 4000000000) (Y : Int) (hsm : ∀ w, Calls Tryz.prog 110 #[.string P] w fun e w' => e = .returned (.int .i64 Y) ∧ Below w.heap.size w w') (hY0 : -2000000000 ≤ Y) (hY1 : Y ≤ 2000000000) (l0 : 0 < S2.size) (l3 : 3 < S2.size) (hl : 6 ≤ (S2.size : Int)) (q0 : (((S2[0]).toNat : Nat) : Int) = 45) (q3 : (((S2[3]).toNat : Nat) : Int) ≠ 45) (hr : MoAt w g m) :
    Calls Tryz.prog 90 #[.pointer (some ⟨g, 0, none⟩), .string s] w fun e w' => e = .returned (.tuple #[.string ⟨#[]⟩, .bool false]) ∧ MoAt w' g { m with y := (-Y) } ∧ Below g w w' := by
  have q3b : ((((S2[3]).toNat : Nat) : Int) != 45) = true := bne_iff_ne.2 q3
  have HRN := Lib.hid hrn
  clear hrn
  have HSM := Lib.hid hsm
  clear hsm
  have HR := Lib.hid hr
  clear hr
  have kY : IntKind.i64.wrap (-Y) = -Y := by rw [IntKind.wrap_i64]; omega
  have hzb : ((((S1[0]).toNat : Nat) : Int) == 48) = false := beq_false_of_ne hz
  go_enter Tryz.func90, Tryz.ntmps90
  go_upto_region 7 with (go_at_call 108; (with_reducible refine (HRN.out _).mono ?_); rintro e' w' ⟨rfl, rfl⟩)
  have c0 := row_cell HR.out 0
  have fz := HR.out.froz
  simp [Mo8.cells] at c0
  go_upto_region 8 with (go_at_call 110; (with_reducible refine (HSM.out _).mono ?_); rintro e' w2 ⟨rfl, hbx⟩; (have R2 := HR.out.next hbx); (have c0' := row_cell R2 0); (have fz' := R2.froz); (simp [Mo8.cells] at c0'))
  have B2 : Below g w w2 := hbx.mono (Nat.le_of_lt HR.out.lt)
  have R3 : MoAt (w2.setCell ⟨g, 0, none⟩ (.int .i64 Y)) g { m with y := Y } := R2.set 0 _ rfl
  have B3 : Below g w (w2.setCell ⟨g, 0, none⟩ (.int .i64 Y)) := bel_set B2 0 _
  generalize World.setCell w2 _ _ = w3 at R3 B3 ⊢
  clear c0 fz c0' fz' R2 B2 hbx HR
  have c0 := row_cell R3 0
  have fz := R3.froz
  simp [Mo8.cells] at c0
  go_upto_region 10 with fail
  have R4 : MoAt (w3.setCell ⟨g, 0, none⟩ (.int .i64 (-Y))) g { m with y := -Y } := R3.set 0 _ rfl
  have B4 : Below g w (w3.setCell ⟨g, 0, none⟩ (.int .i64 (-Y))) := bel_set B3 0 _
  generalize World.setCell w3 _ _ = w4 at R4 B4 ⊢
  clear c0 fz R3 B3
  have HR4 := Lib.hid R4
  have HB4 := Lib.hid B4
  clear R4 B4
  go_wp2_with fail
  go_ret2
  exact ⟨rfl, HR4.out, HB4.out⟩
set_option maxHeartbeats 2000000 in
theorem da_mmb (w : World) (g : Nat) (m : Mo8) (s : ByteArray) (hs : s.size ≤ 4000000000) (h0 : 0 < s.size) (he : (s.toList == []) = false) (hc0 : (((s[0]).toNat : Nat) : Int) = 45) (S1 : ByteArray) (hS1 : s.extract 1 s.size = S1) (hss : S1.size ≤ 4000000000) (n : Nat) (hrn : ∀ w, Calls Tryz.prog 108 #[.string S1] w fun e w' => e = .returned (.int .i64 (n : Nat)) ∧ w = w') (hb : 4 ≤ (n : Int)) (hb2 : (n : Int) ≤ 9) (k0 : 0 < S1.size) (hb3 : 4 < (n : Int)) (hz : (((S1[0]).toNat : Nat) : Int) ≠ 48) (hnl : n ≤ S1.size) (P S2 : ByteArray) (hP : S1.extract 0 n = P) (hS2 : S1.extract n S1.size = S2) (hs2 : S2.size ≤ 4000000000) (Y : Int) (hsm : ∀ w, Calls Tryz.prog 110 #[.string P] w fun e w' => e = .returned (.int .i64 Y) ∧ Below w.heap.size w w') (hY0 : -2000000000 ≤ Y) (hY1 : Y ≤ 2000000000) (l0 : 0 < S2.size) (l3 : 3 < S2.size) (hl : 6 ≤ (S2.size : Int)) (q0 : (((S2[0]).toNat : Nat) : Int) = 45) (q3 : (((S2[3]).toNat : Nat) : Int) = 45) (AQ : ByteArray) (hAQ : S2.extract 1 S2.size = AQ) (M : Int) (hM : ∀ w, Calls Tryz.prog 130 #[.string AQ, .int .i64 1, .int .i64 12] w fun e w' => e = .returned (.int .i64 M) ∧ Below w.heap.size w w') (bM : M < 0) (hr : MoAt w g m) :
    Calls Tryz.prog 90 #[.pointer (some ⟨g, 0, none⟩), .string s] w fun e w' => e = .returned (.tuple #[.string ⟨#[]⟩, .bool false]) ∧ MoAt w' g { m with y := (-Y), mo := M } ∧ Below g w w' := by
  have HM := Lib.hid hM
  clear hM
  have HRN := Lib.hid hrn
  clear hrn
  have HSM := Lib.hid hsm
  clear hsm
  have HR := Lib.hid hr
  clear hr
  have kY : IntKind.i64.wrap (-Y) = -Y := by rw [IntKind.wrap_i64]; omega
  have hzb : ((((S1[0]).toNat : Nat) : Int) == 48) = false := beq_false_of_ne hz
  go_enter Tryz.func90, Tryz.ntmps90
  go_upto_region 7 with (go_at_call 108; (with_reducible refine (HRN.out _).mono ?_); rintro e' w' ⟨rfl, rfl⟩)
  have c0 := row_cell HR.out 0
  have fz := HR.out.froz
  simp [Mo8.cells] at c0
  go_upto_region 8 with (go_at_call 110; (with_reducible refine (HSM.out _).mono ?_); rintro e' w2 ⟨rfl, hbx⟩; (have R2 := HR.out.next hbx); (have c0' := row_cell R2 0); (have fz' := R2.froz); (simp [Mo8.cells] at c0'))
  have B2 : Below g w w2 := hbx.mono (Nat.le_of_lt HR.out.lt)
  have R3 : MoAt (w2.setCell ⟨g, 0, none⟩ (.int .i64 Y)) g { m with y := Y } := R2.set 0 _ rfl
  have B3 : Below g w (w2.setCell ⟨g, 0, none⟩ (.int .i64 Y)) := bel_set B2 0 _
  generalize World.setCell w2 _ _ = w3 at R3 B3 ⊢
  clear c0 fz c0' fz' R2 B2 hbx HR
  have c0 := row_cell R3 0
  have fz := R3.froz
  simp [Mo8.cells] at c0
  go_upto_region 10 with fail
  have R4 : MoAt (w3.setCell ⟨g, 0, none⟩ (.int .i64 (-Y))) g { m with y := -Y } := R3.set 0 _ rfl
  have B4 : Below g w (w3.setCell ⟨g, 0, none⟩ (.int .i64 (-Y))) := bel_set B3 0 _
  generalize World.setCell w3 _ _ = w4 at R4 B4 ⊢
  clear c0 fz R3 B3
  have c1 := row_cell R4 1
  have fz := R4.froz
  simp [Mo8.cells] at c1
  have HR4 := Lib.hid R4
  have HB4 := Lib.hid B4
  clear R4 B4
  go_upto_region 14 with (go_at_call 130; (with_reducible refine (HM.out _).mono ?_); rintro e' w5 ⟨rfl, hbx⟩; (have R5 := HR4.out.next hbx); (have c1' := row_cell R5 1); (have fz' := R5.froz); (simp [Mo8.cells] at c1'))
  have B5 : Below g w w5 := HB4.out.trans (hbx.mono (Nat.le_of_lt HR4.out.lt))
  have R6 : MoAt (w5.setCell ⟨g, 1, none⟩ (.int .i64 M)) g { m with y := (-Y), mo := M } := R5.set 1 _ rfl
  have B6 : Below g w (w5.setCell ⟨g, 1, none⟩ (.int .i64 M)) := bel_set B5 1 _
  generalize World.setCell w5 _ _ = w6 at R6 B6 ⊢
  clear c1 fz c1' fz' R5 B5 hbx HR4 HB4
  have c0 := row_cell R6 0
  have c1 := row_cell R6 1
  have c2 := row_cell R6 2
  have fz := R6.froz
  simp [Mo8.cells] at c0 c1 c2
  have HR6 := Lib.hid R6
  have HB6 := Lib.hid B6
  clear R6 B6
  go_wp2_with fail
  go_ret2
  exact ⟨rfl, HR6.out, HB6.out⟩
set_option maxHeartbeats 2000000 in
theorem da_kmb (w : World) (g : Nat) (m : Mo8) (s : ByteArray) (hs : s.size ≤ 4000000000) (h0 : 0 < s.size) (he : (s.toList == []) = false) (hc0 : (((s[0]).toNat : Nat) : Int) = 45) (S1 : ByteArray) (hS1 : s.extract 1 s.size = S1) (hss : S1.size ≤ 4000000000) (n : Nat) (hrn : ∀ w, Calls Tryz.prog 108 #[.string S1] w fun e w' => e = .returned (.int .i64 (n : Nat)) ∧ w = w') (hb : 4 ≤ (n : Int)) (hb2 : (n : Int) ≤ 9) (k0 : 0 < S1.size) (hb3 : 4 < (n : Int)) (hz : (((S1[0]).toNat : Nat) : Int) ≠ 48) (hnl : n ≤ S1.size) (P S2 : ByteArray) (hP : S1.extract 0 n = P) (hS2 : S1.extract n S1.size = S2) (hs2 : S2.size ≤ 4000000000) (Y : Int) (hsm : ∀ w, Calls Tryz.prog 110 #[.string P] w fun e w' => e = .returned (.int .i64 Y) ∧ Below w.heap.size w w') (hY0 : -2000000000 ≤ Y) (hY1 : Y ≤ 2000000000) (l0 : 0 < S2.size) (l3 : 3 < S2.size) (hl : 6 ≤ (S2.size : Int)) (q0 : (((S2[0]).toNat : Nat) : Int) = 45) (q3 : (((S2[3]).toNat : Nat) : Int) = 45) (AQ : ByteArray) (hAQ : S2.extract 1 S2.size = AQ) (M : Int) (hM : ∀ w, Calls Tryz.prog 130 #[.string AQ, .int .i64 1, .int .i64 12] w fun e w' => e = .returned (.int .i64 M) ∧ Below w.heap.size w w') (bM : 0 ≤ M) (DQ RQ : ByteArray) (hDQ : S2.extract 4 S2.size = DQ) (hRQ : S2.extract 6 S2.size = RQ) (dm D : Int) (hdy : ∀ w, Calls Tryz.prog 131 #[.int .i64 (-Y), .int .i64 M] w fun e w' => e = .returned (.int .i64 dm) ∧ Below w.heap.size w w') (hD : ∀ w, Calls Tryz.prog 130 #[.string DQ, .int .i64 1, .int .i64 dm] w fun e w' => e = .returned (.int .i64 D) ∧ Below w.heap.size w w') (hr : MoAt w g m) :
    Calls Tryz.prog 90 #[.pointer (some ⟨g, 0, none⟩), .string s] w fun e w' => e = .returned (.tuple #[.string RQ, .bool (decide (0 < D))]) ∧ MoAt w' g { m with y := (-Y), mo := M, d := D } ∧ Below g w w' := by
  have HM := Lib.hid hM
  clear hM
  have HDY := Lib.hid hdy
  have HD := Lib.hid hD
  clear hdy hD
  have HRN := Lib.hid hrn
  clear hrn
  have HSM := Lib.hid hsm
  clear hsm
  have HR := Lib.hid hr
  clear hr
  have kY : IntKind.i64.wrap (-Y) = -Y := by rw [IntKind.wrap_i64]; omega
  have hzb : ((((S1[0]).toNat : Nat) : Int) == 48) = false := beq_false_of_ne hz
  go_enter Tryz.func90, Tryz.ntmps90
  go_upto_region 7 with (go_at_call 108; (with_reducible refine (HRN.out _).mono ?_); rintro e' w' ⟨rfl, rfl⟩)
  have c0 := row_cell HR.out 0
  have fz := HR.out.froz
  simp [Mo8.cells] at c0
  go_upto_region 8 with (go_at_call 110; (with_reducible refine (HSM.out _).mono ?_); rintro e' w2 ⟨rfl, hbx⟩; (have R2 := HR.out.next hbx); (have c0' := row_cell R2 0); (have fz' := R2.froz); (simp [Mo8.cells] at c0'))
  have B2 : Below g w w2 := hbx.mono (Nat.le_of_lt HR.out.lt)
  have R3 : MoAt (w2.setCell ⟨g, 0, none⟩ (.int .i64 Y)) g { m with y := Y } := R2.set 0 _ rfl
  have B3 : Below g w (w2.setCell ⟨g, 0, none⟩ (.int .i64 Y)) := bel_set B2 0 _
  generalize World.setCell w2 _ _ = w3 at R3 B3 ⊢
  clear c0 fz c0' fz' R2 B2 hbx HR
  have c0 := row_cell R3 0
  have fz := R3.froz
  simp [Mo8.cells] at c0
  go_upto_region 10 with fail
  have R4 : MoAt (w3.setCell ⟨g, 0, none⟩ (.int .i64 (-Y))) g { m with y := -Y } := R3.set 0 _ rfl
  have B4 : Below g w (w3.setCell ⟨g, 0, none⟩ (.int .i64 (-Y))) := bel_set B3 0 _
  generalize World.setCell w3 _ _ = w4 at R4 B4 ⊢
  clear c0 fz R3 B3
  have c1 := row_cell R4 1
  have fz := R4.froz
  simp [Mo8.cells] at c1
  have HR4 := Lib.hid R4
  have HB4 := Lib.hid B4
  clear R4 B4
  go_upto_region 14 with (go_at_call 130; (with_reducible refine (HM.out _).mono ?_); rintro e' w5 ⟨rfl, hbx⟩; (have R5 := HR4.out.next hbx); (have c1' := row_cell R5 1); (have fz' := R5.froz); (simp [Mo8.cells] at c1'))
  have B5 : Below g w w5 := HB4.out.trans (hbx.mono (Nat.le_of_lt HR4.out.lt))
  have R6 : MoAt (w5.setCell ⟨g, 1, none⟩ (.int .i64 M)) g { m with y := (-Y), mo := M } := R5.set 1 _ rfl
  have B6 : Below g w (w5.setCell ⟨g, 1, none⟩ (.int .i64 M)) := bel_set B5 1 _
  generalize World.setCell w5 _ _ = w6 at R6 B6 ⊢
  clear c1 fz c1' fz' R5 B5 hbx HR4 HB4
  have c0 := row_cell R6 0
  have c1 := row_cell R6 1
  have c2 := row_cell R6 2
  have fz := R6.froz
  simp [Mo8.cells] at c0 c1 c2
  have HR6 := Lib.hid R6
  have HB6 := Lib.hid B6
  clear R6 B6
  go_upto_region 16 with fail
  clear c0 c1 c2 fz
  have rx := HR6.out
  have q1 := Lw.row rx
  have x0 := fun x => (row_cell (q1 x) 0)
  have x1 := fun x => (row_cell (q1 x) 1)
  simp [Mo8.cells] at x0 x1
  clear q1 rx
  refine wp_region_lw_tail 15 (by kernel_rfl) (by kernel_rfl) ?_
  simp only [List.take_succ_cons, List.take_zero, List.drop_succ_cons, List.drop_zero]
  repeat (go_big_quiet_step (first | exact rfl | (go_at_call 131; with_reducible exact lw_call (HDY.out _)) | (go_at_call 130; with_reducible exact lw_call (HD.out _))))
  refine wpQuiet_nil ?_
  rintro ⟨w7, hb7⟩
  dsimp only
  clear x0 x1
  have R7 := HR6.out.next hb7
  have B7 : Below g w w7 := HB6.out.trans (hb7.mono (Nat.le_of_lt HR6.out.lt))
  have c2 := row_cell R7 2
  have fz := R7.froz
  simp [Mo8.cells] at c2
  have R8 : MoAt (w7.setCell ⟨g, 2, none⟩ (.int .i64 D)) g { m with y := (-Y), mo := M, d := D } := R7.set 2 _ rfl
  have B8 : Below g w (w7.setCell ⟨g, 2, none⟩ (.int .i64 D)) := bel_set B7 2 _
  go_upto_region 17 with fail
  generalize World.setCell w7 _ _ = w8 at R8 B8 ⊢
  clear c2 fz R7 B7 hb7
  have q2 := Lw.row R8
  have x2 := fun x => (row_cell (q2 x) 2)
  simp [Mo8.cells] at x2
  clear q2
  refine wp_region_lw (by kernel_rfl) (by kernel_rfl) ?_
  repeat (go_big_quiet_step (first | exact rfl))
  refine wpQuiet_nil ?_
  rintro ⟨w9, hb9⟩
  dsimp only
  have R9 := R8.next hb9
  have B9 : Below g w w9 := B8.trans (hb9.mono (Nat.le_of_lt R8.lt))
  clear x2 hb9 R8 B8
  have HR9 := Lib.hid R9
  have HB9 := Lib.hid B9
  clear R9 B9
  go_wp2_with fail
  go_ret2
  exact ⟨rfl, HR9.out, HB9.out⟩
set_option maxHeartbeats 2000000 in
theorem da_lop (w : World) (g : Nat) (m : Mo8) (s : ByteArray) (hs : s.size ≤ 4000000000) (h0 : 0 < s.size) (he : (s.toList == []) = false) (hc0 : (((s[0]).toNat : Nat) : Int) ≠ 45) (n : Nat) (hrn : ∀ w, Calls Tryz.prog 108 #[.string s] w fun e w' => e = .returned (.int .i64 (n : Nat)) ∧ w = w') (hb : (n : Int) < 4) (hr : MoAt w g m) :
    Calls Tryz.prog 90 #[.pointer (some ⟨g, 0, none⟩), .string s] w fun e w' => e = .returned (.tuple #[.string ⟨#[]⟩, .bool false]) ∧ w = w' := by
  have HRN := Lib.hid hrn
  clear hrn
  have hc0b : ((((s[0]).toNat : Nat) : Int) == 45) = false := beq_false_of_ne hc0
  clear hr
  go_enter Tryz.func90, Tryz.ntmps90
  go_wp2_with (go_at_call 108; (with_reducible refine (HRN.out _).mono ?_); rintro e' w' ⟨rfl, rfl⟩)
  go_ret2
  exact ⟨rfl, rfl⟩
set_option maxHeartbeats 2000000 in
theorem da_hip (w : World) (g : Nat) (m : Mo8) (s : ByteArray) (hs : s.size ≤ 4000000000) (h0 : 0 < s.size) (he : (s.toList == []) = false) (hc0 : (((s[0]).toNat : Nat) : Int) ≠ 45) (n : Nat) (hrn : ∀ w, Calls Tryz.prog 108 #[.string s] w fun e w' => e = .returned (.int .i64 (n : Nat)) ∧ w = w') (hb : 9 < (n : Int)) (hb2 : 4 ≤ (n : Int)) (hr : MoAt w g m) :
    Calls Tryz.prog 90 #[.pointer (some ⟨g, 0, none⟩), .string s] w fun e w' => e = .returned (.tuple #[.string ⟨#[]⟩, .bool false]) ∧ w = w' := by
  have HRN := Lib.hid hrn
  clear hrn
  have hc0b : ((((s[0]).toNat : Nat) : Int) == 45) = false := beq_false_of_ne hc0
  clear hr
  go_enter Tryz.func90, Tryz.ntmps90
  go_wp2_with (go_at_call 108; (with_reducible refine (HRN.out _).mono ?_); rintro e' w' ⟨rfl, rfl⟩)
  go_ret2
  exact ⟨rfl, rfl⟩
set_option maxHeartbeats 2000000 in
theorem da_zp (w : World) (g : Nat) (m : Mo8) (s : ByteArray) (hs : s.size ≤ 4000000000) (h0 : 0 < s.size) (he : (s.toList == []) = false) (hc0 : (((s[0]).toNat : Nat) : Int) ≠ 45) (n : Nat) (hrn : ∀ w, Calls Tryz.prog 108 #[.string s] w fun e w' => e = .returned (.int .i64 (n : Nat)) ∧ w = w') (k0 : 0 < s.size) (hb : (n : Int) ≤ 9) (hb2 : 4 < (n : Int)) (hb3 : 4 ≤ (n : Int)) (hz : (((s[0]).toNat : Nat) : Int) = 48) (hr : MoAt w g m) :
    Calls Tryz.prog 90 #[.pointer (some ⟨g, 0, none⟩), .string s] w fun e w' => e = .returned (.tuple #[.string ⟨#[]⟩, .bool false]) ∧ w = w' := by
  have HRN := Lib.hid hrn
  clear hrn
  have hc0b : ((((s[0]).toNat : Nat) : Int) == 45) = false := beq_false_of_ne hc0
  clear hr
  go_enter Tryz.func90, Tryz.ntmps90
  go_wp2_with (go_at_call 108; (with_reducible refine (HRN.out _).mono ?_); rintro e' w' ⟨rfl, rfl⟩)
  go_ret2
  exact ⟨rfl, rfl⟩
set_option maxHeartbeats 2000000 in
theorem da_lpa (w : World) (g : Nat) (m : Mo8) (s : ByteArray) (hs : s.size ≤ 4000000000) (h0 : 0 < s.size) (he : (s.toList == []) = false) (hc0 : (((s[0]).toNat : Nat) : Int) ≠ 45) (n : Nat) (hrn : ∀ w, Calls Tryz.prog 108 #[.string s] w fun e w' => e = .returned (.int .i64 (n : Nat)) ∧ w = w') (hb : 4 ≤ (n : Int)) (hb2 : (n : Int) ≤ 9) (hb3 : (n : Int) ≤ 4) (hnl : n ≤ s.size) (P S2 : ByteArray) (hP : s.extract 0 n = P) (hS2 : s.extract n s.size = S2) (hs2 : S2.size ≤ 4000000000) (Y : Int) (hsm : ∀ w, Calls Tryz.prog 110 #[.string P] w fun e w' => e = .returned (.int .i64 Y) ∧ Below w.heap.size w w') (hl : (S2.size : Int) < 6) (hr : MoAt w g m) :
    Calls Tryz.prog 90 #[.pointer (some ⟨g, 0, none⟩), .string s] w fun e w' => e = .returned (.tuple #[.string ⟨#[]⟩, .bool false]) ∧ MoAt w' g { m with y := Y } ∧ Below g w w' := by
  have HRN := Lib.hid hrn
  clear hrn
  have HSM := Lib.hid hsm
  clear hsm
  have HR := Lib.hid hr
  clear hr
  have hc0b : ((((s[0]).toNat : Nat) : Int) == 45) = false := beq_false_of_ne hc0
  go_enter Tryz.func90, Tryz.ntmps90
  go_upto_region 7 with (go_at_call 108; (with_reducible refine (HRN.out _).mono ?_); rintro e' w' ⟨rfl, rfl⟩)
  have c0 := row_cell HR.out 0
  have fz := HR.out.froz
  simp [Mo8.cells] at c0
  go_upto_region 8 with (go_at_call 110; (with_reducible refine (HSM.out _).mono ?_); rintro e' w2 ⟨rfl, hbx⟩; (have R2 := HR.out.next hbx); (have c0' := row_cell R2 0); (have fz' := R2.froz); (simp [Mo8.cells] at c0'))
  have B2 : Below g w w2 := hbx.mono (Nat.le_of_lt HR.out.lt)
  have R3 : MoAt (w2.setCell ⟨g, 0, none⟩ (.int .i64 Y)) g { m with y := Y } := R2.set 0 _ rfl
  have B3 : Below g w (w2.setCell ⟨g, 0, none⟩ (.int .i64 Y)) := bel_set B2 0 _
  generalize World.setCell w2 _ _ = w3 at R3 B3 ⊢
  clear c0 fz c0' fz' R2 B2 hbx HR
  have R4 := R3
  have B4 := B3
  clear R3 B3
  have HR4 := Lib.hid R4
  have HB4 := Lib.hid B4
  clear R4 B4
  go_wp2_with fail
  go_ret2
  exact ⟨rfl, HR4.out, HB4.out⟩
set_option maxHeartbeats 2000000 in
theorem da_cpa (w : World) (g : Nat) (m : Mo8) (s : ByteArray) (hs : s.size ≤ 4000000000) (h0 : 0 < s.size) (he : (s.toList == []) = false) (hc0 : (((s[0]).toNat : Nat) : Int) ≠ 45) (n : Nat) (hrn : ∀ w, Calls Tryz.prog 108 #[.string s] w fun e w' => e = .returned (.int .i64 (n : Nat)) ∧ w = w') (hb : 4 ≤ (n : Int)) (hb2 : (n : Int) ≤ 9) (hb3 : (n : Int) ≤ 4) (hnl : n ≤ s.size) (P S2 : ByteArray) (hP : s.extract 0 n = P) (hS2 : s.extract n s.size = S2) (hs2 : S2.size ≤ 4000000000) (Y : Int) (hsm : ∀ w, Calls Tryz.prog 110 #[.string P] w fun e w' => e = .returned (.int .i64 Y) ∧ Below w.heap.size w w') (l0 : 0 < S2.size) (l3 : 3 < S2.size) (hl : 6 ≤ (S2.size : Int)) (q0 : (((S2[0]).toNat : Nat) : Int) ≠ 45) (hr : MoAt w g m) :
    Calls Tryz.prog 90 #[.pointer (some ⟨g, 0, none⟩), .string s] w fun e w' => e = .returned (.tuple #[.string ⟨#[]⟩, .bool false]) ∧ MoAt w' g { m with y := Y } ∧ Below g w w' := by
  have q0b : ((((S2[0]).toNat : Nat) : Int) != 45) = true := bne_iff_ne.2 q0
  have HRN := Lib.hid hrn
  clear hrn
  have HSM := Lib.hid hsm
  clear hsm
  have HR := Lib.hid hr
  clear hr
  have hc0b : ((((s[0]).toNat : Nat) : Int) == 45) = false := beq_false_of_ne hc0
  go_enter Tryz.func90, Tryz.ntmps90
  go_upto_region 7 with (go_at_call 108; (with_reducible refine (HRN.out _).mono ?_); rintro e' w' ⟨rfl, rfl⟩)
  have c0 := row_cell HR.out 0
  have fz := HR.out.froz
  simp [Mo8.cells] at c0
  go_upto_region 8 with (go_at_call 110; (with_reducible refine (HSM.out _).mono ?_); rintro e' w2 ⟨rfl, hbx⟩; (have R2 := HR.out.next hbx); (have c0' := row_cell R2 0); (have fz' := R2.froz); (simp [Mo8.cells] at c0'))
  have B2 : Below g w w2 := hbx.mono (Nat.le_of_lt HR.out.lt)
  have R3 : MoAt (w2.setCell ⟨g, 0, none⟩ (.int .i64 Y)) g { m with y := Y } := R2.set 0 _ rfl
  have B3 : Below g w (w2.setCell ⟨g, 0, none⟩ (.int .i64 Y)) := bel_set B2 0 _
  generalize World.setCell w2 _ _ = w3 at R3 B3 ⊢
  clear c0 fz c0' fz' R2 B2 hbx HR
  have R4 := R3
  have B4 := B3
  clear R3 B3
  have HR4 := Lib.hid R4
  have HB4 := Lib.hid B4
  clear R4 B4
  go_wp2_with fail
  go_ret2
  exact ⟨rfl, HR4.out, HB4.out⟩
set_option maxHeartbeats 2000000 in
theorem da_dpa (w : World) (g : Nat) (m : Mo8) (s : ByteArray) (hs : s.size ≤ 4000000000) (h0 : 0 < s.size) (he : (s.toList == []) = false) (hc0 : (((s[0]).toNat : Nat) : Int) ≠ 45) (n : Nat) (hrn : ∀ w, Calls Tryz.prog 108 #[.string s] w fun e w' => e = .returned (.int .i64 (n : Nat)) ∧ w = w') (hb : 4 ≤ (n : Int)) (hb2 : (n : Int) ≤ 9) (hb3 : (n : Int) ≤ 4) (hnl : n ≤ s.size) (P S2 : ByteArray) (hP : s.extract 0 n = P) (hS2 : s.extract n s.size = S2) (hs2 : S2.size ≤ 4000000000) (Y : Int) (hsm : ∀ w, Calls Tryz.prog 110 #[.string P] w fun e w' => e = .returned (.int .i64 Y) ∧ Below w.heap.size w w') (l0 : 0 < S2.size) (l3 : 3 < S2.size) (hl : 6 ≤ (S2.size : Int)) (q0 : (((S2[0]).toNat : Nat) : Int) = 45) (q3 : (((S2[3]).toNat : Nat) : Int) ≠ 45) (hr : MoAt w g m) :
    Calls Tryz.prog 90 #[.pointer (some ⟨g, 0, none⟩), .string s] w fun e w' => e = .returned (.tuple #[.string ⟨#[]⟩, .bool false]) ∧ MoAt w' g { m with y := Y } ∧ Below g w w' := by
  have q3b : ((((S2[3]).toNat : Nat) : Int) != 45) = true := bne_iff_ne.2 q3
  have HRN := Lib.hid hrn
  clear hrn
  have HSM := Lib.hid hsm
  clear hsm
  have HR := Lib.hid hr
  clear hr
  have hc0b : ((((s[0]).toNat : Nat) : Int) == 45) = false := beq_false_of_ne hc0
  go_enter Tryz.func90, Tryz.ntmps90
  go_upto_region 7 with (go_at_call 108; (with_reducible refine (HRN.out _).mono ?_); rintro e' w' ⟨rfl, rfl⟩)
  have c0 := row_cell HR.out 0
  have fz := HR.out.froz
  simp [Mo8.cells] at c0
  go_upto_region 8 with (go_at_call 110; (with_reducible refine (HSM.out _).mono ?_); rintro e' w2 ⟨rfl, hbx⟩; (have R2 := HR.out.next hbx); (have c0' := row_cell R2 0); (have fz' := R2.froz); (simp [Mo8.cells] at c0'))
  have B2 : Below g w w2 := hbx.mono (Nat.le_of_lt HR.out.lt)
  have R3 : MoAt (w2.setCell ⟨g, 0, none⟩ (.int .i64 Y)) g { m with y := Y } := R2.set 0 _ rfl
  have B3 : Below g w (w2.setCell ⟨g, 0, none⟩ (.int .i64 Y)) := bel_set B2 0 _
  generalize World.setCell w2 _ _ = w3 at R3 B3 ⊢
  clear c0 fz c0' fz' R2 B2 hbx HR
  have R4 := R3
  have B4 := B3
  clear R3 B3
  have HR4 := Lib.hid R4
  have HB4 := Lib.hid B4
  clear R4 B4
  go_wp2_with fail
  go_ret2
  exact ⟨rfl, HR4.out, HB4.out⟩
set_option maxHeartbeats 2000000 in
theorem da_mpa (w : World) (g : Nat) (m : Mo8) (s : ByteArray) (hs : s.size ≤ 4000000000) (h0 : 0 < s.size) (he : (s.toList == []) = false) (hc0 : (((s[0]).toNat : Nat) : Int) ≠ 45) (n : Nat) (hrn : ∀ w, Calls Tryz.prog 108 #[.string s] w fun e w' => e = .returned (.int .i64 (n : Nat)) ∧ w = w') (hb : 4 ≤ (n : Int)) (hb2 : (n : Int) ≤ 9) (hb3 : (n : Int) ≤ 4) (hnl : n ≤ s.size) (P S2 : ByteArray) (hP : s.extract 0 n = P) (hS2 : s.extract n s.size = S2) (hs2 : S2.size ≤ 4000000000) (Y : Int) (hsm : ∀ w, Calls Tryz.prog 110 #[.string P] w fun e w' => e = .returned (.int .i64 Y) ∧ Below w.heap.size w w') (l0 : 0 < S2.size) (l3 : 3 < S2.size) (hl : 6 ≤ (S2.size : Int)) (q0 : (((S2[0]).toNat : Nat) : Int) = 45) (q3 : (((S2[3]).toNat : Nat) : Int) = 45) (AQ : ByteArray) (hAQ : S2.extract 1 S2.size = AQ) (M : Int) (hM : ∀ w, Calls Tryz.prog 130 #[.string AQ, .int .i64 1, .int .i64 12] w fun e w' => e = .returned (.int .i64 M) ∧ Below w.heap.size w w') (bM : M < 0) (hr : MoAt w g m) :
    Calls Tryz.prog 90 #[.pointer (some ⟨g, 0, none⟩), .string s] w fun e w' => e = .returned (.tuple #[.string ⟨#[]⟩, .bool false]) ∧ MoAt w' g { m with y := Y, mo := M } ∧ Below g w w' := by
  have HM := Lib.hid hM
  clear hM
  have HRN := Lib.hid hrn
  clear hrn
  have HSM := Lib.hid hsm
  clear hsm
  have HR := Lib.hid hr
  clear hr
  have hc0b : ((((s[0]).toNat : Nat) : Int) == 45) = false := beq_false_of_ne hc0
  go_enter Tryz.func90, Tryz.ntmps90
  go_upto_region 7 with (go_at_call 108; (with_reducible refine (HRN.out _).mono ?_); rintro e' w' ⟨rfl, rfl⟩)
  have c0 := row_cell HR.out 0
  have fz := HR.out.froz
  simp [Mo8.cells] at c0
  go_upto_region 8 with (go_at_call 110; (with_reducible refine (HSM.out _).mono ?_); rintro e' w2 ⟨rfl, hbx⟩; (have R2 := HR.out.next hbx); (have c0' := row_cell R2 0); (have fz' := R2.froz); (simp [Mo8.cells] at c0'))
  have B2 : Below g w w2 := hbx.mono (Nat.le_of_lt HR.out.lt)
  have R3 : MoAt (w2.setCell ⟨g, 0, none⟩ (.int .i64 Y)) g { m with y := Y } := R2.set 0 _ rfl
  have B3 : Below g w (w2.setCell ⟨g, 0, none⟩ (.int .i64 Y)) := bel_set B2 0 _
  generalize World.setCell w2 _ _ = w3 at R3 B3 ⊢
  clear c0 fz c0' fz' R2 B2 hbx HR
  have R4 := R3
  have B4 := B3
  clear R3 B3
  have c1 := row_cell R4 1
  have fz := R4.froz
  simp [Mo8.cells] at c1
  have HR4 := Lib.hid R4
  have HB4 := Lib.hid B4
  clear R4 B4
  go_upto_region 14 with (go_at_call 130; (with_reducible refine (HM.out _).mono ?_); rintro e' w5 ⟨rfl, hbx⟩; (have R5 := HR4.out.next hbx); (have c1' := row_cell R5 1); (have fz' := R5.froz); (simp [Mo8.cells] at c1'))
  have B5 : Below g w w5 := HB4.out.trans (hbx.mono (Nat.le_of_lt HR4.out.lt))
  have R6 : MoAt (w5.setCell ⟨g, 1, none⟩ (.int .i64 M)) g { m with y := Y, mo := M } := R5.set 1 _ rfl
  have B6 : Below g w (w5.setCell ⟨g, 1, none⟩ (.int .i64 M)) := bel_set B5 1 _
  generalize World.setCell w5 _ _ = w6 at R6 B6 ⊢
  clear c1 fz c1' fz' R5 B5 hbx HR4 HB4
  have c0 := row_cell R6 0
  have c1 := row_cell R6 1
  have c2 := row_cell R6 2
  have fz := R6.froz
  simp [Mo8.cells] at c0 c1 c2
  have HR6 := Lib.hid R6
  have HB6 := Lib.hid B6
  clear R6 B6
  go_wp2_with fail
  go_ret2
  exact ⟨rfl, HR6.out, HB6.out⟩
set_option maxHeartbeats 2000000 in
theorem da_kpa (w : World) (g : Nat) (m : Mo8) (s : ByteArray) (hs : s.size ≤ 4000000000) (h0 : 0 < s.size) (he : (s.toList == []) = false) (hc0 : (((s[0]).toNat : Nat) : Int) ≠ 45) (n : Nat) (hrn : ∀ w, Calls Tryz.prog 108 #[.string s] w fun e w' => e = .returned (.int .i64 (n : Nat)) ∧ w = w') (hb : 4 ≤ (n : Int)) (hb2 : (n : Int) ≤ 9) (hb3 : (n : Int) ≤ 4) (hnl : n ≤ s.size) (P S2 : ByteArray) (hP : s.extract 0 n = P) (hS2 : s.extract n s.size = S2) (hs2 : S2.size ≤ 4000000000) (Y : Int) (hsm : ∀ w, Calls Tryz.prog 110 #[.string P] w fun e w' => e = .returned (.int .i64 Y) ∧ Below w.heap.size w w') (l0 : 0 < S2.size) (l3 : 3 < S2.size) (hl : 6 ≤ (S2.size : Int)) (q0 : (((S2[0]).toNat : Nat) : Int) = 45) (q3 : (((S2[3]).toNat : Nat) : Int) = 45) (AQ : ByteArray) (hAQ : S2.extract 1 S2.size = AQ) (M : Int) (hM : ∀ w, Calls Tryz.prog 130 #[.string AQ, .int .i64 1, .int .i64 12] w fun e w' => e = .returned (.int .i64 M) ∧ Below w.heap.size w w') (bM : 0 ≤ M) (DQ RQ : ByteArray) (hDQ : S2.extract 4 S2.size = DQ) (hRQ : S2.extract 6 S2.size = RQ) (dm D : Int) (hdy : ∀ w, Calls Tryz.prog 131 #[.int .i64 Y, .int .i64 M] w fun e w' => e = .returned (.int .i64 dm) ∧ Below w.heap.size w w') (hD : ∀ w, Calls Tryz.prog 130 #[.string DQ, .int .i64 1, .int .i64 dm] w fun e w' => e = .returned (.int .i64 D) ∧ Below w.heap.size w w') (hr : MoAt w g m) :
    Calls Tryz.prog 90 #[.pointer (some ⟨g, 0, none⟩), .string s] w fun e w' => e = .returned (.tuple #[.string RQ, .bool (decide (0 < D))]) ∧ MoAt w' g { m with y := Y, mo := M, d := D } ∧ Below g w w' := by
  have HM := Lib.hid hM
  clear hM
  have HDY := Lib.hid hdy
  have HD := Lib.hid hD
  clear hdy hD
  have HRN := Lib.hid hrn
  clear hrn
  have HSM := Lib.hid hsm
  clear hsm
  have HR := Lib.hid hr
  clear hr
  have hc0b : ((((s[0]).toNat : Nat) : Int) == 45) = false := beq_false_of_ne hc0
  go_enter Tryz.func90, Tryz.ntmps90
  go_upto_region 7 with (go_at_call 108; (with_reducible refine (HRN.out _).mono ?_); rintro e' w' ⟨rfl, rfl⟩)
  have c0 := row_cell HR.out 0
  have fz := HR.out.froz
  simp [Mo8.cells] at c0
  go_upto_region 8 with (go_at_call 110; (with_reducible refine (HSM.out _).mono ?_); rintro e' w2 ⟨rfl, hbx⟩; (have R2 := HR.out.next hbx); (have c0' := row_cell R2 0); (have fz' := R2.froz); (simp [Mo8.cells] at c0'))
  have B2 : Below g w w2 := hbx.mono (Nat.le_of_lt HR.out.lt)
  have R3 : MoAt (w2.setCell ⟨g, 0, none⟩ (.int .i64 Y)) g { m with y := Y } := R2.set 0 _ rfl
  have B3 : Below g w (w2.setCell ⟨g, 0, none⟩ (.int .i64 Y)) := bel_set B2 0 _
  generalize World.setCell w2 _ _ = w3 at R3 B3 ⊢
  clear c0 fz c0' fz' R2 B2 hbx HR
  have R4 := R3
  have B4 := B3
  clear R3 B3
  have c1 := row_cell R4 1
  have fz := R4.froz
  simp [Mo8.cells] at c1
  have HR4 := Lib.hid R4
  have HB4 := Lib.hid B4
  clear R4 B4
  go_upto_region 14 with (go_at_call 130; (with_reducible refine (HM.out _).mono ?_); rintro e' w5 ⟨rfl, hbx⟩; (have R5 := HR4.out.next hbx); (have c1' := row_cell R5 1); (have fz' := R5.froz); (simp [Mo8.cells] at c1'))
  have B5 : Below g w w5 := HB4.out.trans (hbx.mono (Nat.le_of_lt HR4.out.lt))
  have R6 : MoAt (w5.setCell ⟨g, 1, none⟩ (.int .i64 M)) g { m with y := Y, mo := M } := R5.set 1 _ rfl
  have B6 : Below g w (w5.setCell ⟨g, 1, none⟩ (.int .i64 M)) := bel_set B5 1 _
  generalize World.setCell w5 _ _ = w6 at R6 B6 ⊢
  clear c1 fz c1' fz' R5 B5 hbx HR4 HB4
  have c0 := row_cell R6 0
  have c1 := row_cell R6 1
  have c2 := row_cell R6 2
  have fz := R6.froz
  simp [Mo8.cells] at c0 c1 c2
  have HR6 := Lib.hid R6
  have HB6 := Lib.hid B6
  clear R6 B6
  go_upto_region 16 with fail
  clear c0 c1 c2 fz
  have rx := HR6.out
  have q1 := Lw.row rx
  have x0 := fun x => (row_cell (q1 x) 0)
  have x1 := fun x => (row_cell (q1 x) 1)
  simp [Mo8.cells] at x0 x1
  clear q1 rx
  refine wp_region_lw_tail 15 (by kernel_rfl) (by kernel_rfl) ?_
  simp only [List.take_succ_cons, List.take_zero, List.drop_succ_cons, List.drop_zero]
  repeat (go_big_quiet_step (first | exact rfl | (go_at_call 131; with_reducible exact lw_call (HDY.out _)) | (go_at_call 130; with_reducible exact lw_call (HD.out _))))
  refine wpQuiet_nil ?_
  rintro ⟨w7, hb7⟩
  dsimp only
  clear x0 x1
  have R7 := HR6.out.next hb7
  have B7 : Below g w w7 := HB6.out.trans (hb7.mono (Nat.le_of_lt HR6.out.lt))
  have c2 := row_cell R7 2
  have fz := R7.froz
  simp [Mo8.cells] at c2
  have R8 : MoAt (w7.setCell ⟨g, 2, none⟩ (.int .i64 D)) g { m with y := Y, mo := M, d := D } := R7.set 2 _ rfl
  have B8 : Below g w (w7.setCell ⟨g, 2, none⟩ (.int .i64 D)) := bel_set B7 2 _
  go_upto_region 17 with fail
  generalize World.setCell w7 _ _ = w8 at R8 B8 ⊢
  clear c2 fz R7 B7 hb7
  have q2 := Lw.row R8
  have x2 := fun x => (row_cell (q2 x) 2)
  simp [Mo8.cells] at x2
  clear q2
  refine wp_region_lw (by kernel_rfl) (by kernel_rfl) ?_
  repeat (go_big_quiet_step (first | exact rfl))
  refine wpQuiet_nil ?_
  rintro ⟨w9, hb9⟩
  dsimp only
  have R9 := R8.next hb9
  have B9 : Below g w w9 := B8.trans (hb9.mono (Nat.le_of_lt R8.lt))
  clear x2 hb9 R8 B8
  have HR9 := Lib.hid R9
  have HB9 := Lib.hid B9
  clear R9 B9
  go_wp2_with fail
  go_ret2
  exact ⟨rfl, HR9.out, HB9.out⟩
set_option maxHeartbeats 2000000 in
theorem da_lpb (w : World) (g : Nat) (m : Mo8) (s : ByteArray) (hs : s.size ≤ 4000000000) (h0 : 0 < s.size) (he : (s.toList == []) = false) (hc0 : (((s[0]).toNat : Nat) : Int) ≠ 45) (n : Nat) (hrn : ∀ w, Calls Tryz.prog 108 #[.string s] w fun e w' => e = .returned (.int .i64 (n : Nat)) ∧ w = w') (hb : 4 ≤ (n : Int)) (hb2 : (n : Int) ≤ 9) (k0 : 0 < s.size) (hb3 : 4 < (n : Int)) (hz : (((s[0]).toNat : Nat) : Int) ≠ 48) (hnl : n ≤ s.size) (P S2 : ByteArray) (hP : s.extract 0 n = P) (hS2 : s.extract n s.size = S2) (hs2 : S2.size ≤ 4000000000) (Y : Int) (hsm : ∀ w, Calls Tryz.prog 110 #[.string P] w fun e w' => e = .returned (.int .i64 Y) ∧ Below w.heap.size w w') (hl : (S2.size : Int) < 6) (hr : MoAt w g m) :
    Calls Tryz.prog 90 #[.pointer (some ⟨g, 0, none⟩), .string s] w fun e w' => e = .returned (.tuple #[.string ⟨#[]⟩, .bool false]) ∧ MoAt w' g { m with y := Y } ∧ Below g w w' := by
  have HRN := Lib.hid hrn
  clear hrn
  have HSM := Lib.hid hsm
  clear hsm
  have HR := Lib.hid hr
  clear hr
  have hc0b : ((((s[0]).toNat : Nat) : Int) == 45) = false := beq_false_of_ne hc0
  have hzb : ((((s[0]).toNat : Nat) : Int) == 48) = false := beq_false_of_ne hz
  go_enter Tryz.func90, Tryz.ntmps90
  go_upto_region 7 with (go_at_call 108; (with_reducible refine (HRN.out _).mono ?_); rintro e' w' ⟨rfl, rfl⟩)
  have c0 := row_cell HR.out 0
  have fz := HR.out.froz
  simp [Mo8.cells] at c0
  go_upto_region 8 with (go_at_call 110; (with_reducible refine (HSM.out _).mono ?_); rintro e' w2 ⟨rfl, hbx⟩; (have R2 := HR.out.next hbx); (have c0' := row_cell R2 0); (have fz' := R2.froz); (simp [Mo8.cells] at c0'))
  have B2 : Below g w w2 := hbx.mono (Nat.le_of_lt HR.out.lt)
  have R3 : MoAt (w2.setCell ⟨g, 0, none⟩ (.int .i64 Y)) g { m with y := Y } := R2.set 0 _ rfl
  have B3 : Below g w (w2.setCell ⟨g, 0, none⟩ (.int .i64 Y)) := bel_set B2 0 _
  generalize World.setCell w2 _ _ = w3 at R3 B3 ⊢
  clear c0 fz c0' fz' R2 B2 hbx HR
  have R4 := R3
  have B4 := B3
  clear R3 B3
  have HR4 := Lib.hid R4
  have HB4 := Lib.hid B4
  clear R4 B4
  go_wp2_with fail
  go_ret2
  exact ⟨rfl, HR4.out, HB4.out⟩
set_option maxHeartbeats 2000000 in
theorem da_cpb (w : World) (g : Nat) (m : Mo8) (s : ByteArray) (hs : s.size ≤ 4000000000) (h0 : 0 < s.size) (he : (s.toList == []) = false) (hc0 : (((s[0]).toNat : Nat) : Int) ≠ 45) (n : Nat) (hrn : ∀ w, Calls Tryz.prog 108 #[.string s] w fun e w' => e = .returned (.int .i64 (n : Nat)) ∧ w = w') (hb : 4 ≤ (n : Int)) (hb2 : (n : Int) ≤ 9) (k0 : 0 < s.size) (hb3 : 4 < (n : Int)) (hz : (((s[0]).toNat : Nat) : Int) ≠ 48) (hnl : n ≤ s.size) (P S2 : ByteArray) (hP : s.extract 0 n = P) (hS2 : s.extract n s.size = S2) (hs2 : S2.size ≤ 4000000000) (Y : Int) (hsm : ∀ w, Calls Tryz.prog 110 #[.string P] w fun e w' => e = .returned (.int .i64 Y) ∧ Below w.heap.size w w') (l0 : 0 < S2.size) (l3 : 3 < S2.size) (hl : 6 ≤ (S2.size : Int)) (q0 : (((S2[0]).toNat : Nat) : Int) ≠ 45) (hr : MoAt w g m) :
    Calls Tryz.prog 90 #[.pointer (some ⟨g, 0, none⟩), .string s] w fun e w' => e = .returned (.tuple #[.string ⟨#[]⟩, .bool false]) ∧ MoAt w' g { m with y := Y } ∧ Below g w w' := by
  have q0b : ((((S2[0]).toNat : Nat) : Int) != 45) = true := bne_iff_ne.2 q0
  have HRN := Lib.hid hrn
  clear hrn
  have HSM := Lib.hid hsm
  clear hsm
  have HR := Lib.hid hr
  clear hr
  have hc0b : ((((s[0]).toNat : Nat) : Int) == 45) = false := beq_false_of_ne hc0
  have hzb : ((((s[0]).toNat : Nat) : Int) == 48) = false := beq_false_of_ne hz
  go_enter Tryz.func90, Tryz.ntmps90
  go_upto_region 7 with (go_at_call 108; (with_reducible refine (HRN.out _).mono ?_); rintro e' w' ⟨rfl, rfl⟩)
  have c0 := row_cell HR.out 0
  have fz := HR.out.froz
  simp [Mo8.cells] at c0
  go_upto_region 8 with (go_at_call 110; (with_reducible refine (HSM.out _).mono ?_); rintro e' w2 ⟨rfl, hbx⟩; (have R2 := HR.out.next hbx); (have c0' := row_cell R2 0); (have fz' := R2.froz); (simp [Mo8.cells] at c0'))
  have B2 : Below g w w2 := hbx.mono (Nat.le_of_lt HR.out.lt)
  have R3 : MoAt (w2.setCell ⟨g, 0, none⟩ (.int .i64 Y)) g { m with y := Y } := R2.set 0 _ rfl
  have B3 : Below g w (w2.setCell ⟨g, 0, none⟩ (.int .i64 Y)) := bel_set B2 0 _
  generalize World.setCell w2 _ _ = w3 at R3 B3 ⊢
  clear c0 fz c0' fz' R2 B2 hbx HR
  have R4 := R3
  have B4 := B3
  clear R3 B3
  have HR4 := Lib.hid R4
  have HB4 := Lib.hid B4
  clear R4 B4
  go_wp2_with fail
  go_ret2
  exact ⟨rfl, HR4.out, HB4.out⟩
set_option maxHeartbeats 2000000 in
theorem da_dpb (w : World) (g : Nat) (m : Mo8) (s : ByteArray) (hs : s.size ≤ 4000000000) (h0 : 0 < s.size) (he : (s.toList == []) = false) (hc0 : (((s[0]).toNat : Nat) : Int) ≠ 45) (n : Nat) (hrn : ∀ w, Calls Tryz.prog 108 #[.string s] w fun e w' => e = .returned (.int .i64 (n : Nat)) ∧ w = w') (hb : 4 ≤ (n : Int)) (hb2 : (n : Int) ≤ 9) (k0 : 0 < s.size) (hb3 : 4 < (n : Int)) (hz : (((s[0]).toNat : Nat) : Int) ≠ 48) (hnl : n ≤ s.size) (P S2 : ByteArray) (hP : s.extract 0 n = P) (hS2 : s.extract n s.size = S2) (hs2 : S2.size ≤ 4000000000) (Y : Int) (hsm : ∀ w, Calls Tryz.prog 110 #[.string P] w fun e w' => e = .returned (.int .i64 Y) ∧ Below w.heap.size w w') (l0 : 0 < S2.size) (l3 : 3 < S2.size) (hl : 6 ≤ (S2.size : Int)) (q0 : (((S2[0]).toNat : Nat) : Int) = 45) (q3 : (((S2[3]).toNat : Nat) : Int) ≠ 45) (hr : MoAt w g m) :
    Calls Tryz.prog 90 #[.pointer (some ⟨g, 0, none⟩), .string s] w fun e w' => e = .returned (.tuple #[.string ⟨#[]⟩, .bool false]) ∧ MoAt w' g { m with y := Y } ∧ Below g w w' := by
  have q3b : ((((S2[3]).toNat : Nat) : Int) != 45) = true := bne_iff_ne.2 q3
  have HRN := Lib.hid hrn
  clear hrn
  have HSM := Lib.hid hsm
  clear hsm
  have HR := Lib.hid hr
  clear hr
  have hc0b : ((((s[0]).toNat : Nat) : Int) == 45) = false := beq_false_of_ne hc0
  have hzb : ((((s[0]).toNat : Nat) : Int) == 48) = false := beq_false_of_ne hz
  go_enter Tryz.func90, Tryz.ntmps90
  go_upto_region 7 with (go_at_call 108; (with_reducible refine (HRN.out _).mono ?_); rintro e' w' ⟨rfl, rfl⟩)
  have c0 := row_cell HR.out 0
  have fz := HR.out.froz
  simp [Mo8.cells] at c0
  go_upto_region 8 with (go_at_call 110; (with_reducible refine (HSM.out _).mono ?_); rintro e' w2 ⟨rfl, hbx⟩; (have R2 := HR.out.next hbx); (have c0' := row_cell R2 0); (have fz' := R2.froz); (simp [Mo8.cells] at c0'))
  have B2 : Below g w w2 := hbx.mono (Nat.le_of_lt HR.out.lt)
  have R3 : MoAt (w2.setCell ⟨g, 0, none⟩ (.int .i64 Y)) g { m with y := Y } := R2.set 0 _ rfl
  have B3 : Below g w (w2.setCell ⟨g, 0, none⟩ (.int .i64 Y)) := bel_set B2 0 _
  generalize World.setCell w2 _ _ = w3 at R3 B3 ⊢
  clear c0 fz c0' fz' R2 B2 hbx HR
  have R4 := R3
  have B4 := B3
  clear R3 B3
  have HR4 := Lib.hid R4
  have HB4 := Lib.hid B4
  clear R4 B4
  go_wp2_with fail
  go_ret2
  exact ⟨rfl, HR4.out, HB4.out⟩
set_option maxHeartbeats 2000000 in
theorem da_mpb (w : World) (g : Nat) (m : Mo8) (s : ByteArray) (hs : s.size ≤ 4000000000) (h0 : 0 < s.size) (he : (s.toList == []) = false) (hc0 : (((s[0]).toNat : Nat) : Int) ≠ 45) (n : Nat) (hrn : ∀ w, Calls Tryz.prog 108 #[.string s] w fun e w' => e = .returned (.int .i64 (n : Nat)) ∧ w = w') (hb : 4 ≤ (n : Int)) (hb2 : (n : Int) ≤ 9) (k0 : 0 < s.size) (hb3 : 4 < (n : Int)) (hz : (((s[0]).toNat : Nat) : Int) ≠ 48) (hnl : n ≤ s.size) (P S2 : ByteArray) (hP : s.extract 0 n = P) (hS2 : s.extract n s.size = S2) (hs2 : S2.size ≤ 4000000000) (Y : Int) (hsm : ∀ w, Calls Tryz.prog 110 #[.string P] w fun e w' => e = .returned (.int .i64 Y) ∧ Below w.heap.size w w') (l0 : 0 < S2.size) (l3 : 3 < S2.size) (hl : 6 ≤ (S2.size : Int)) (q0 : (((S2[0]).toNat : Nat) : Int) = 45) (q3 : (((S2[3]).toNat : Nat) : Int) = 45) (AQ : ByteArray) (hAQ : S2.extract 1 S2.size = AQ) (M : Int) (hM : ∀ w, Calls Tryz.prog 130 #[.string AQ, .int .i64 1, .int .i64 12] w fun e w' => e = .returned (.int .i64 M) ∧ Below w.heap.size w w') (bM : M < 0) (hr : MoAt w g m) :
    Calls Tryz.prog 90 #[.pointer (some ⟨g, 0, none⟩), .string s] w fun e w' => e = .returned (.tuple #[.string ⟨#[]⟩, .bool false]) ∧ MoAt w' g { m with y := Y, mo := M } ∧ Below g w w' := by
  have HM := Lib.hid hM
  clear hM
  have HRN := Lib.hid hrn
  clear hrn
  have HSM := Lib.hid hsm
  clear hsm
  have HR := Lib.hid hr
  clear hr
  have hc0b : ((((s[0]).toNat : Nat) : Int) == 45) = false := beq_false_of_ne hc0
  have hzb : ((((s[0]).toNat : Nat) : Int) == 48) = false := beq_false_of_ne hz
  go_enter Tryz.func90, Tryz.ntmps90
  go_upto_region 7 with (go_at_call 108; (with_reducible refine (HRN.out _).mono ?_); rintro e' w' ⟨rfl, rfl⟩)
  have c0 := row_cell HR.out 0
  have fz := HR.out.froz
  simp [Mo8.cells] at c0
  go_upto_region 8 with (go_at_call 110; (with_reducible refine (HSM.out _).mono ?_); rintro e' w2 ⟨rfl, hbx⟩; (have R2 := HR.out.next hbx); (have c0' := row_cell R2 0); (have fz' := R2.froz); (simp [Mo8.cells] at c0'))
  have B2 : Below g w w2 := hbx.mono (Nat.le_of_lt HR.out.lt)
  have R3 : MoAt (w2.setCell ⟨g, 0, none⟩ (.int .i64 Y)) g { m with y := Y } := R2.set 0 _ rfl
  have B3 : Below g w (w2.setCell ⟨g, 0, none⟩ (.int .i64 Y)) := bel_set B2 0 _
  generalize World.setCell w2 _ _ = w3 at R3 B3 ⊢
  clear c0 fz c0' fz' R2 B2 hbx HR
  have R4 := R3
  have B4 := B3
  clear R3 B3
  have c1 := row_cell R4 1
  have fz := R4.froz
  simp [Mo8.cells] at c1
  have HR4 := Lib.hid R4
  have HB4 := Lib.hid B4
  clear R4 B4
  go_upto_region 14 with (go_at_call 130; (with_reducible refine (HM.out _).mono ?_); rintro e' w5 ⟨rfl, hbx⟩; (have R5 := HR4.out.next hbx); (have c1' := row_cell R5 1); (have fz' := R5.froz); (simp [Mo8.cells] at c1'))
  have B5 : Below g w w5 := HB4.out.trans (hbx.mono (Nat.le_of_lt HR4.out.lt))
  have R6 : MoAt (w5.setCell ⟨g, 1, none⟩ (.int .i64 M)) g { m with y := Y, mo := M } := R5.set 1 _ rfl
  have B6 : Below g w (w5.setCell ⟨g, 1, none⟩ (.int .i64 M)) := bel_set B5 1 _
  generalize World.setCell w5 _ _ = w6 at R6 B6 ⊢
  clear c1 fz c1' fz' R5 B5 hbx HR4 HB4
  have c0 := row_cell R6 0
  have c1 := row_cell R6 1
  have c2 := row_cell R6 2
  have fz := R6.froz
  simp [Mo8.cells] at c0 c1 c2
  have HR6 := Lib.hid R6
  have HB6 := Lib.hid B6
  clear R6 B6
  go_wp2_with fail
  go_ret2
  exact ⟨rfl, HR6.out, HB6.out⟩
set_option maxHeartbeats 2000000 in
theorem da_kpb (w : World) (g : Nat) (m : Mo8) (s : ByteArray) (hs : s.size ≤ 4000000000) (h0 : 0 < s.size) (he : (s.toList == []) = false) (hc0 : (((s[0]).toNat : Nat) : Int) ≠ 45) (n : Nat) (hrn : ∀ w, Calls Tryz.prog 108 #[.string s] w fun e w' => e = .returned (.int .i64 (n : Nat)) ∧ w = w') (hb : 4 ≤ (n : Int)) (hb2 : (n : Int) ≤ 9) (k0 : 0 < s.size) (hb3 : 4 < (n : Int)) (hz : (((s[0]).toNat : Nat) : Int) ≠ 48) (hnl : n ≤ s.size) (P S2 : ByteArray) (hP : s.extract 0 n = P) (hS2 : s.extract n s.size = S2) (hs2 : S2.size ≤ 4000000000) (Y : Int) (hsm : ∀ w, Calls Tryz.prog 110 #[.string P] w fun e w' => e = .returned (.int .i64 Y) ∧ Below w.heap.size w w') (l0 : 0 < S2.size) (l3 : 3 < S2.size) (hl : 6 ≤ (S2.size : Int)) (q0 : (((S2[0]).toNat : Nat) : Int) = 45) (q3 : (((S2[3]).toNat : Nat) : Int) = 45) (AQ : ByteArray) (hAQ : S2.extract 1 S2.size = AQ) (M : Int) (hM : ∀ w, Calls Tryz.prog 130 #[.string AQ, .int .i64 1, .int .i64 12] w fun e w' => e = .returned (.int .i64 M) ∧ Below w.heap.size w w') (bM : 0 ≤ M) (DQ RQ : ByteArray) (hDQ : S2.extract 4 S2.size = DQ) (hRQ : S2.extract 6 S2.size = RQ) (dm D : Int) (hdy : ∀ w, Calls Tryz.prog 131 #[.int .i64 Y, .int .i64 M] w fun e w' => e = .returned (.int .i64 dm) ∧ Below w.heap.size w w') (hD : ∀ w, Calls Tryz.prog 130 #[.string DQ, .int .i64 1, .int .i64 dm] w fun e w' => e = .returned (.int .i64 D) ∧ Below w.heap.size w w') (hr : MoAt w g m) :
    Calls Tryz.prog 90 #[.pointer (some ⟨g, 0, none⟩), .string s] w fun e w' => e = .returned (.tuple #[.string RQ, .bool (decide (0 < D))]) ∧ MoAt w' g { m with y := Y, mo := M, d := D } ∧ Below g w w' := by
  have HM := Lib.hid hM
  clear hM
  have HDY := Lib.hid hdy
  have HD := Lib.hid hD
  clear hdy hD
  have HRN := Lib.hid hrn
  clear hrn
  have HSM := Lib.hid hsm
  clear hsm
  have HR := Lib.hid hr
  clear hr
  have hc0b : ((((s[0]).toNat : Nat) : Int) == 45) = false := beq_false_of_ne hc0
  have hzb : ((((s[0]).toNat : Nat) : Int) == 48) = false := beq_false_of_ne hz
  go_enter Tryz.func90, Tryz.ntmps90
  go_upto_region 7 with (go_at_call 108; (with_reducible refine (HRN.out _).mono ?_); rintro e' w' ⟨rfl, rfl⟩)
  have c0 := row_cell HR.out 0
  have fz := HR.out.froz
  simp [Mo8.cells] at c0
  go_upto_region 8 with (go_at_call 110; (with_reducible refine (HSM.out _).mono ?_); rintro e' w2 ⟨rfl, hbx⟩; (have R2 := HR.out.next hbx); (have c0' := row_cell R2 0); (have fz' := R2.froz); (simp [Mo8.cells] at c0'))
  have B2 : Below g w w2 := hbx.mono (Nat.le_of_lt HR.out.lt)
  have R3 : MoAt (w2.setCell ⟨g, 0, none⟩ (.int .i64 Y)) g { m with y := Y } := R2.set 0 _ rfl
  have B3 : Below g w (w2.setCell ⟨g, 0, none⟩ (.int .i64 Y)) := bel_set B2 0 _
  generalize World.setCell w2 _ _ = w3 at R3 B3 ⊢
  clear c0 fz c0' fz' R2 B2 hbx HR
  have R4 := R3
  have B4 := B3
  clear R3 B3
  have c1 := row_cell R4 1
  have fz := R4.froz
  simp [Mo8.cells] at c1
  have HR4 := Lib.hid R4
  have HB4 := Lib.hid B4
  clear R4 B4
  go_upto_region 14 with (go_at_call 130; (with_reducible refine (HM.out _).mono ?_); rintro e' w5 ⟨rfl, hbx⟩; (have R5 := HR4.out.next hbx); (have c1' := row_cell R5 1); (have fz' := R5.froz); (simp [Mo8.cells] at c1'))
  have B5 : Below g w w5 := HB4.out.trans (hbx.mono (Nat.le_of_lt HR4.out.lt))
  have R6 : MoAt (w5.setCell ⟨g, 1, none⟩ (.int .i64 M)) g { m with y := Y, mo := M } := R5.set 1 _ rfl
  have B6 : Below g w (w5.setCell ⟨g, 1, none⟩ (.int .i64 M)) := bel_set B5 1 _
  generalize World.setCell w5 _ _ = w6 at R6 B6 ⊢
  clear c1 fz c1' fz' R5 B5 hbx HR4 HB4
  have c0 := row_cell R6 0
  have c1 := row_cell R6 1
  have c2 := row_cell R6 2
  have fz := R6.froz
  simp [Mo8.cells] at c0 c1 c2
  have HR6 := Lib.hid R6
  have HB6 := Lib.hid B6
  clear R6 B6
  go_upto_region 16 with fail
  clear c0 c1 c2 fz
  have rx := HR6.out
  have q1 := Lw.row rx
  have x0 := fun x => (row_cell (q1 x) 0)
  have x1 := fun x => (row_cell (q1 x) 1)
  simp [Mo8.cells] at x0 x1
  clear q1 rx
  refine wp_region_lw_tail 15 (by kernel_rfl) (by kernel_rfl) ?_
  simp only [List.take_succ_cons, List.take_zero, List.drop_succ_cons, List.drop_zero]
  repeat (go_big_quiet_step (first | exact rfl | (go_at_call 131; with_reducible exact lw_call (HDY.out _)) | (go_at_call 130; with_reducible exact lw_call (HD.out _))))
  refine wpQuiet_nil ?_
  rintro ⟨w7, hb7⟩
  dsimp only
  clear x0 x1
  have R7 := HR6.out.next hb7
  have B7 : Below g w w7 := HB6.out.trans (hb7.mono (Nat.le_of_lt HR6.out.lt))
  have c2 := row_cell R7 2
  have fz := R7.froz
  simp [Mo8.cells] at c2
  have R8 : MoAt (w7.setCell ⟨g, 2, none⟩ (.int .i64 D)) g { m with y := Y, mo := M, d := D } := R7.set 2 _ rfl
  have B8 : Below g w (w7.setCell ⟨g, 2, none⟩ (.int .i64 D)) := bel_set B7 2 _
  go_upto_region 17 with fail
  generalize World.setCell w7 _ _ = w8 at R8 B8 ⊢
  clear c2 fz R7 B7 hb7
  have q2 := Lw.row R8
  have x2 := fun x => (row_cell (q2 x) 2)
  simp [Mo8.cells] at x2
  clear q2
  refine wp_region_lw (by kernel_rfl) (by kernel_rfl) ?_
  repeat (go_big_quiet_step (first | exact rfl))
  refine wpQuiet_nil ?_
  rintro ⟨w9, hb9⟩
  dsimp only
  have R9 := R8.next hb9
  have B9 : Below g w w9 := B8.trans (hb9.mono (Nat.le_of_lt R8.lt))
  clear x2 hb9 R8 B8
  have HR9 := Lib.hid R9
  have HB9 := Lib.hid B9
  clear R9 B9
  go_wp2_with fail
  go_ret2
  exact ⟨rfl, HR9.out, HB9.out⟩
end Go.Proofs.YtlhcejbimlilaaaGreatDoor
/- The program's texts of moments: date, clock. -/
namespace Go.Tk
open Go Go.RowKit
end Go.Tk
namespace Go.Proofs.YtlhcejbimlilaaaGreatDoor
open Go.RowKit Go.Tk
end Go.Proofs.YtlhcejbimlilaaaGreatDoor
