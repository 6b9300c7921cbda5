/- VdO VaX, laid as one. -/
import Derived.Test.YtlhcejbimlilaaaGreatDoorVdN
import Derived.Test.YtlhcejbimlilaaaGreatDoorVcC
import Derived.Test.YtlhcejbimlilaaaGreatDoorVaW
set_option linter.unusedVariables false
set_option linter.unusedSimpArgs false
/- The document's zone, whole. -/
namespace Go.Tk
open Go Go.RowKit
theorem twoP_of {a b : UInt8} {u mk : List UInt8} : twoP (a :: b :: u) mk = if (dgB [a, b] && Lib.hasPrefix u mk) = true then some (tw8 (a :: b :: u), u.drop mk.length) else none := by
  show (if (dgB [a, b] && Lib.hasPrefix u mk) = true then some (((a.toNat : Int) - 48) * 10 + ((b.toNat : Int) - 48), u.drop mk.length) else none) = _
  cases h : dgB [a, b] with
  | false => rfl
  | true =>
    have e : tw8 (a :: b :: u) = 10 * ((a.toNat : Int) - 48) + ((b.toNat : Int) - 48) := by
      show (if dgB [a, b] = true then _ else _) = _
      rw [h, if_pos rfl]
    rw [e]
    congr 3
    omega
theorem tw8_no {a b : UInt8} {u : List UInt8} (h : dgB [a, b] = false) : tw8 (a :: b :: u) = -1 := by
  show (if dgB [a, b] = true then _ else _) = _
  rw [h]; rfl
theorem tw8_yes {a b : UInt8} {u : List UInt8} (h : dgB [a, b] = true) : 0 ≤ tw8 (a :: b :: u) := by
  have h1 := List.all_eq_true.1 h a (by simp)
  have h2 := List.all_eq_true.1 h b (by simp)
  simp only [Bool.and_eq_true, decide_eq_true_eq] at h1 h2
  have e1 := UInt8.le_iff_toNat_le.1 h1.1
  have e3 := UInt8.le_iff_toNat_le.1 h2.1
  have k1 : (48 : UInt8).toNat = 48 := rfl
  show 0 ≤ (if dgB [a, b] = true then 10 * ((a.toNat : Int) - 48) + ((b.toNat : Int) - 48) else -1)
  rw [h, if_pos rfl]
  omega
theorem twoP_some {l mk : List UInt8} {v : Int} {r : List UInt8} (h : twoP l mk = some (v, r)) : ∃ a b u, l = a :: b :: u ∧ dgB [a, b] = true ∧ Lib.hasPrefix u mk = true ∧ v = tw8 l ∧ r = u.drop mk.length := by
  cases l with
  | nil => cases h
  | cons a t =>
    cases t with
    | nil => cases h
    | cons b u =>
      rw [twoP_of] at h
      split at h
      · rename_i hc
        rw [Bool.and_eq_true] at hc
        obtain ⟨e1, e2⟩ := Prod.mk.inj (Option.some.inj h)
        exact ⟨a, b, u, rfl, hc.1, hc.2, e1.symm, e2.symm⟩
      · cases h
theorem pre_58 {u : List UInt8} {c : UInt8} (h : Lib.hasPrefix u [c] = true) : ∃ r, u = c :: r := by
  unfold Lib.hasPrefix at h
  obtain ⟨r, hr⟩ := List.isPrefixOf_iff_prefix.1 h
  exact ⟨r, hr.symm⟩
/-- A zone's text that has not six signs is none. -/
theorem rdZ_len {l : List UInt8} (h0 : l ≠ []) (h9 : l ≠ [90]) (h6 : l.length ≠ 6) : rdZ l = none := by
  cases l with
  | nil => exact absurd rfl h0
  | cons c t =>
    unfold rdZ
    dsimp only
    rw [if_neg (by rintro ⟨rfl, rfl⟩; exact h9 rfl)]
    split
    · rfl
    · cases h1 : twoP t [58] with
      | none => rfl
      | some x =>
        obtain ⟨v, r⟩ := x
        dsimp only
        cases h2 : twoP r [] with
        | none => rfl
        | some y =>
          obtain ⟨v2, e⟩ := y
          dsimp only
          rw [if_pos]
          left
          rintro rfl
          obtain ⟨a, b, u, rfl, _, hp, _, rfl⟩ := twoP_some h1
          obtain ⟨q, rfl⟩ := pre_58 hp
          obtain ⟨a2, b2, u2, hq, _, _, _, hu⟩ := twoP_some h2
          simp at hq hu
          subst hu
          rw [hq] at h6
          simp at h6
theorem rdZ_six {c0 c1 c2 c3 c4 c5 : UInt8} : rdZ [c0, c1, c2, c3, c4, c5] = if c3 ≠ 58 ∨ c0 ≠ 43 ∧ c0 ≠ 45 ∨ btw [c1, c2, c3, c4, c5] 0 14 < 0 ∨ btw [c4, c5] 0 59 < 0 ∨ btw [c1, c2, c3, c4, c5] 0 14 = 14 ∧ btw [c4, c5] 0 59 ≠ 0 then none
    else some (true, if c0 = 45 then -60 * btw [c1, c2, c3, c4, c5] 0 14 - btw [c4, c5] 0 59 else 60 * btw [c1, c2, c3, c4, c5] 0 14 + btw [c4, c5] 0 59) := by
  unfold rdZ
  dsimp only
  rw [if_neg (by rintro ⟨_, h⟩; cases h)]
  by_cases hs : c0 ≠ 43 ∧ c0 ≠ 45
  · rw [if_pos hs, if_pos (.inr (.inl hs))]
  rw [if_neg hs, twoP_of]
  by_cases h3 : c3 = 58
  · subst h3
    rw [pre_one 58 _, Bool.and_true]
    have hb1 : btw [c1, c2, 58, c4, c5] 0 14 = if tw8 [c1, c2, 58, c4, c5] < 0 ∨ 14 < tw8 [c1, c2, 58, c4, c5] then -1 else tw8 [c1, c2, 58, c4, c5] := rfl
    have hb2 : btw [c4, c5] 0 59 = if tw8 [c4, c5] < 0 ∨ 59 < tw8 [c4, c5] then -1 else tw8 [c4, c5] := rfl
    cases d1 : dgB [c1, c2] with
    | false =>
      rw [if_neg (by simp)]
      dsimp only
      rw [hb1, tw8_no d1, if_pos (by omega)]
    | true =>
      have p1 := tw8_yes (u := [58, c4, c5]) d1
      rw [if_pos rfl]
      dsimp only
      rw [show List.drop [(58 : UInt8)].length [58, c4, c5] = [c4, c5] from rfl, twoP_of, pre_nil, Bool.and_true]
      cases d2 : dgB [c4, c5] with
      | false =>
        rw [if_neg (by simp)]
        dsimp only
        rw [hb2, tw8_no d2, if_pos (show (-1 : Int) < 0 ∨ 59 < (-1 : Int) by omega), if_pos]
        exact .inr (.inr (.inr (.inl (by omega))))
      | true =>
        have p2 := tw8_yes (u := []) d2
        rw [if_pos rfl]
        dsimp only
        rw [hb1, hb2]
        generalize tw8 [c1, c2, 58, c4, c5] = h at *
        generalize tw8 [c4, c5] = m at *
        by_cases q : 59 < m ∨ 14 < h ∨ (h = 14 ∧ 0 < m)
        · rw [if_pos (.inr q), if_pos]
          rcases q with q | q | q
          · rw [if_pos (show m < 0 ∨ 59 < m by omega)]; exact .inr (.inr (.inr (.inl (by omega))))
          · rw [if_pos (show h < 0 ∨ 14 < h by omega)]; exact .inr (.inr (.inl (by omega)))
          · rw [if_neg (show ¬ (h < 0 ∨ 14 < h) by omega)]
            by_cases q2 : 59 < m
            · rw [if_pos (show m < 0 ∨ 59 < m by omega)]; exact .inr (.inr (.inr (.inl (by omega))))
            · rw [if_neg (show ¬ (m < 0 ∨ 59 < m) by omega)]; exact .inr (.inr (.inr (.inr ⟨q.1, by omega⟩)))
        · rw [if_neg (show ¬ (List.drop (([] : List UInt8).length) ([] : List UInt8) ≠ [] ∨ 59 < m ∨ 14 < h ∨ h = 14 ∧ 0 < m) from fun e => e.elim (fun e => e rfl) q)]
          rw [if_neg (show ¬ (h < 0 ∨ 14 < h) by omega), if_neg (show ¬ (m < 0 ∨ 59 < m) by omega)]
          rw [if_neg (show ¬ ((58 : UInt8) ≠ 58 ∨ c0 ≠ 43 ∧ c0 ≠ 45 ∨ h < 0 ∨ m < 0 ∨ h = 14 ∧ m ≠ 0) from by
            rintro (e | e | e | e | e)
            · exact e rfl
            · exact hs e
            · omega
            · omega
            · omega)]
  · rw [show Lib.hasPrefix [c3, c4, c5] [58] = false from pre_no _ h3, Bool.and_false, if_neg (by simp)]
    dsimp only
    rw [if_pos (.inl h3)]
end Go.Tk
namespace Go.Proofs.YtlhcejbimlilaaaGreatDoor
open Go.RowKit Go.Tk
def ZoPost (l : List UInt8) (g : Nat) (m : Mo8) (w : World) (e : Ending) (w' : World) : Prop :=
  ∃ (z : Bool) (o : Int), e = .returned (.bool (rdZ l).isSome) ∧ MoAt w' g { m with z := z, o := o } ∧ Below g w w' ∧ ∀ x, rdZ l = some x → (z, o) = x
theorem mo_eta {m : Mo8} (hz : m.z = false) (ho : m.o = 0) : ({ m with z := false, o := 0 } : Mo8) = m := by cases m; simp only at hz ho; rw [hz, ho]
/-- The document's zone, of a moment that has none. -/
theorem rzone_calls (w : World) (g : Nat) (m : Mo8) (s : ByteArray) (hs : s.size ≤ 4000000000) (hz0 : m.z = false) (ho0 : m.o = 0) (hr : MoAt w g m) :
    Calls Tryz.prog 92 #[.pointer (some ⟨g, 0, none⟩), .string s] w (ZoPost s.data.toList g m w) := by
  have hls : s.data.toList.length = s.size := (Lib.size_eq s).symm
  by_cases h0 : s.data.toList = []
  · refine (zo_nil w g m s (by rw [Lib.toList_data, h0]; rfl) hr).mono fun e w' ⟨h1, h2⟩ => ⟨false, 0, ?_, ?_, ?_, ?_⟩
    · rw [h1, h0]; rfl
    · rw [mo_eta hz0 ho0, ← h2]; exact hr
    · rw [← h2]; exact Below.refl _ _
    · rw [h0]; intro x hx; cases hx; rfl
  have n0 : (s.toList == []) = false := by rw [Lib.toList_data]; exact beq_false_of_ne h0
  by_cases h9 : s.data.toList = [90]
  · refine (zo_Z w g m s n0 (by rw [Lib.toList_data, h9]; rfl) hr).mono fun e w' ⟨h1, h2, h3⟩ => ⟨true, m.o, ?_, h2, h3, ?_⟩
    · rw [h1, h9]; rfl
    · rw [h9, ho0]; intro x hx; cases hx; rfl
  have n9 : (s.toList == [90]) = false := by rw [Lib.toList_data]; exact beq_false_of_ne h9
  have bad : rdZ s.data.toList = none → ∀ {e w'}, (e = Ending.returned (.bool false) ∧ MoAt w' g { m with z := true, o := m.o } ∧ Below g w w') → ZoPost s.data.toList g m w e w' := fun hn {e w'} h => ⟨true, m.o, by rw [hn]; exact h.1, h.2.1, h.2.2, fun x hx => by rw [hn] at hx; cases hx⟩
  by_cases h6 : s.size = 6
  · have k0 : 0 < s.size := by omega
    have k3 : 3 < s.size := by omega
    have hL : ∃ c0 c1 c2 c3 c4 c5, s.data.toList = [c0, c1, c2, c3, c4, c5] := by
      rw [h6] at hls
      match h : s.data.toList, hls with
      | [c0, c1, c2, c3, c4, c5], _ => exact ⟨c0, c1, c2, c3, c4, c5, rfl⟩
    obtain ⟨c0, c1, c2, c3, c4, c5, hL⟩ := hL
    have e0 : s[0] = c0 := by rw [← ba_get s 0 k0]; simp [hL]
    have e3 : s[3] = c3 := by rw [← ba_get s 3 k3]; simp [hL]
    have x0 : ∀ n : Nat, n < 256 → ((((s[0]).toNat : Nat) : Int) = n ↔ c0 = UInt8.ofNat n) := fun n hn => by
      rw [e0]
      constructor
      · intro h; exact u8_eq hn (by omega)
      · rintro rfl; rw [UInt8.toNat_ofNat_of_lt' (by simpa using hn)]
    have x3 : ∀ n : Nat, n < 256 → ((((s[3]).toNat : Nat) : Int) = n ↔ c3 = UInt8.ofNat n) := fun n hn => by
      rw [e3]
      constructor
      · intro h; exact u8_eq hn (by omega)
      · rintro rfl; rw [UInt8.toNat_ofNat_of_lt' (by simpa using hn)]
    have hsix := @rdZ_six c0 c1 c2 c3 c4 c5
    rw [← hL] at hsix
    obtain ⟨A, hA⟩ : ∃ A, s.extract 1 s.size = A := ⟨_, rfl⟩
    obtain ⟨B, hB⟩ : ∃ A, s.extract 4 s.size = A := ⟨_, rfl⟩
    have hAd : A.data.toList = [c1, c2, c3, c4, c5] := by rw [← hA, ex_drop, hL]; rfl
    have hBd : B.data.toList = [c4, c5] := by rw [← hB, ex_drop, hL]; rfl
    have hAs : A.size ≤ 5 := by rw [Lib.size_eq, hAd]; simp
    have hBs : B.size ≤ 5 := by rw [Lib.size_eq, hBd]; simp
    have ba := fun w => rbetween_calls A 0 14 w (by omega)
    have bb := fun w => rbetween_calls B 0 59 w (by omega)
    rw [hAd] at ba
    rw [hBd] at bb
    have r1 : btw [c1, c2, c3, c4, c5] 0 14 ≤ 14 := by unfold btw; split <;> omega
    have r2 : btw [c4, c5] 0 59 ≤ 59 := by unfold btw; split <;> omega
    obtain ⟨h, hh⟩ : ∃ h, h = btw [c1, c2, c3, c4, c5] 0 14 := ⟨_, rfl⟩
    obtain ⟨mi, hmi⟩ : ∃ h, h = btw [c4, c5] 0 59 := ⟨_, rfl⟩
    rw [← hh] at hsix ba r1
    rw [← hmi] at hsix bb r2
    have h6' : (s.size : Int) = 6 := by omega
    by_cases hc : c3 = 58
    · have hc' := (x3 58 (by omega)).2 hc
      by_cases hp : c0 = 43 ∨ c0 = 45
      · by_cases b1 : h < 0
        · have hn : rdZ s.data.toList = none := by rw [hsix, if_pos (.inr (.inr (.inl b1)))]
          rcases hp with hp | hp
          · exact (zo_bhp w g m s n0 n9 k0 k3 h6' hc' ((x0 43 (by omega)).2 hp) A B hA hB h mi ba bb b1 hr).mono fun _ _ h => bad hn h
          · exact (zo_bhm w g m s n0 n9 k0 k3 h6' hc' ((x0 45 (by omega)).2 hp) A B hA hB h mi ba bb b1 hr).mono fun _ _ h => bad hn h
        by_cases b2 : mi < 0
        · have hn : rdZ s.data.toList = none := by rw [hsix, if_pos (.inr (.inr (.inr (.inl b2))))]
          rcases hp with hp | hp
          · exact (zo_bmp w g m s n0 n9 k0 k3 h6' hc' ((x0 43 (by omega)).2 hp) A B hA hB h mi ba bb (by omega) b2 hr).mono fun _ _ h => bad hn h
          · exact (zo_bmm w g m s n0 n9 k0 k3 h6' hc' ((x0 45 (by omega)).2 hp) A B hA hB h mi ba bb (by omega) b2 hr).mono fun _ _ h => bad hn h
        by_cases b3 : h = 14 ∧ mi ≠ 0
        · have hn : rdZ s.data.toList = none := by rw [hsix, if_pos (.inr (.inr (.inr (.inr b3))))]
          rcases hp with hp | hp
          · exact (zo_bxp w g m s n0 n9 k0 k3 h6' hc' ((x0 43 (by omega)).2 hp) A B hA hB h mi ba bb (by omega) (by omega) b3.1 b3.2 hr).mono fun _ _ h => bad hn h
          · exact (zo_bxm w g m s n0 n9 k0 k3 h6' hc' ((x0 45 (by omega)).2 hp) A B hA hB h mi ba bb (by omega) (by omega) b3.1 b3.2 hr).mono fun _ _ h => bad hn h
        · have hn : rdZ s.data.toList = some (true, if c0 = 45 then -60 * h - mi else 60 * h + mi) := by
            rw [hsix, if_neg]
            rintro (e | e | e | e | e)
            · exact e hc
            · rcases hp with hp | hp
              · exact e.1 hp
              · exact e.2 hp
            · exact b1 e
            · exact b2 e
            · exact b3 e
          have good : ∀ {o : Int}, o = (if c0 = 45 then -60 * h - mi else 60 * h + mi) → ∀ {e w'}, (e = Ending.returned (.bool true) ∧ MoAt w' g { m with z := true, o := o } ∧ Below g w w') → ZoPost s.data.toList g m w e w' := fun {o} ho {e w'} q => ⟨true, o, by rw [hn]; exact q.1, q.2.1, q.2.2, fun x hx => by rw [hn] at hx; cases hx; rw [ho]⟩
          by_cases h14 : h = 14
          · have hm0 : mi = 0 := by by_cases q : mi = 0; exact q; exact absurd ⟨h14, q⟩ b3
            rw [h14] at ba
            rw [hm0] at bb
            rcases hp with hp | hp
            · exact (zo_okbp w g m s n0 n9 k0 k3 h6' hc' ((x0 43 (by omega)).2 hp) A B hA hB ba bb hr).mono fun _ _ q => good (by rw [if_neg (by rw [hp]; decide), h14, hm0]; rfl) q
            · exact (zo_okbm w g m s n0 n9 k0 k3 h6' hc' ((x0 45 (by omega)).2 hp) A B hA hB ba bb hr).mono fun _ _ q => good (by rw [if_pos hp, h14, hm0]; rfl) q
          · rcases hp with hp | hp
            · exact (zo_okap w g m s n0 n9 k0 k3 h6' hc' ((x0 43 (by omega)).2 hp) A B hA hB h mi ba bb (by omega) r1 (by omega) r2 h14 hr).mono fun _ _ q => good (by rw [if_neg (by rw [hp]; decide)]) q
            · exact (zo_okam w g m s n0 n9 k0 k3 h6' hc' ((x0 45 (by omega)).2 hp) A B hA hB h mi ba bb (by omega) r1 (by omega) r2 h14 hr).mono fun _ _ q => good (by rw [if_pos hp]; omega) q
      · have hq : c0 ≠ 43 ∧ c0 ≠ 45 := ⟨fun e => hp (.inl e), fun e => hp (.inr e)⟩
        have hn : rdZ s.data.toList = none := by rw [hsix, if_pos (.inr (.inl hq))]
        exact (zo_sgn w g m s n0 n9 k0 k3 h6' hc' (fun e => hq.1 ((x0 43 (by omega)).1 e)) (fun e => hq.2 ((x0 45 (by omega)).1 e)) hr).mono fun _ _ h => bad hn h
    · have hn : rdZ s.data.toList = none := by rw [hsix, if_pos (.inl hc)]
      exact (zo_col w g m s n0 n9 k0 k3 h6' (fun e => hc ((x3 58 (by omega)).1 e)) hr).mono fun _ _ h => bad hn h
  · exact (zo_len w g m s n0 n9 (by omega) hr).mono fun _ _ h => bad (rdZ_len h0 h9 (by rw [hls]; exact h6)) h
end Go.Proofs.YtlhcejbimlilaaaGreatDoor
/- The program's texts of moments: date, clock. -/
namespace Go.Tk
open Go Go.RowKit
/-- A date's text, and whether its year has few digits. -/
def DtPost (n : Int) (w : World) (e : Ending) (w' : World) : Prop := ∃ y m d : Int, e = .returned (.tuple #[.string ⟨(dtP y m d).toArray⟩, .bool (decide ((if y < 0 then -y else y) ≤ 999999999))]) ∧ IsDate n y m d ∧ Below w.heap.size w w'
theorem isDate_bd {n y m d : Int} (h : IsDate n y m d) (hn : -400000000000 ≤ n ∧ n ≤ 400000000000) : -1100000000 ≤ y ∧ y ≤ 1100000000 ∧ d ≤ 31 := by
  have h1 := h.yr
  have h2 := mdP_bd y m
  have h3 := h.d2
  refine ⟨?_, ?_, by omega⟩
  · by_cases c : -1100000000 ≤ y
    · exact c
    · have := ydP_le (a := y + 1) (b := -1100000000) (by omega)
      have e : ydP (-1100000000) ≤ -401000000000 := by unfold ydP; omega
      omega
  · by_cases c : y ≤ 1100000000
    · exact c
    · have := ydP_le (a := 1100000000) (b := y) (by omega)
      have e : 401000000000 ≤ ydP 1100000000 := by unfold ydP; omega
      omega
end Go.Tk
namespace Go.Proofs.YtlhcejbimlilaaaGreatDoor
open Go.RowKit Go.Tk
set_option maxHeartbeats 2000000 in
theorem date_calls (m : Mt) (w : World) (hpw : Pow w) (hs : -34000000000000000 ≤ m.sec ∧ m.sec ≤ 34000000000000000) :
    Calls Tryz.prog 103 #[m.val] w (DtPost (m.sec / 86400) w) := by
  obtain ⟨sec, part, zd, zn, sp⟩ := m
  dsimp only at hs
  obtain ⟨hs1, hs2⟩ := hs
  have hfl := fun w => floor_calls sec 86400 w (by omega) (by omega) (by omega) (by omega)
  obtain ⟨n, hn⟩ : ∃ n, n = sec / 86400 := ⟨_, rfl⟩
  rw [← hn] at hfl
  have hdt := fun w => dated_calls n w (by omega) (by omega)
  have hnb : -400000000000 ≤ n ∧ n ≤ 400000000000 := by omega
  dsimp only
  rw [← hn]
  unfold Mt.val
  dsimp only
  have HFL := Lib.hid hfl
  have HDT := Lib.hid hdt
  have HPW := Lib.hid hpw
  have HNB := Lib.hid hnb
  have hpd := fun (x : Int) (k : Nat) (w : World) (h : Pow w) (a : -9223372036854775808 ≤ x) (b : x ≤ 9223372036854775807) (c : k ≤ 21) => pad_calls x k w h a b c
  have HPD := Lib.hid hpd
  clear hfl hdt hpw hn hnb hpd
  go_enter Tryz.func103, Tryz.ntmps103
  go_upto_region 2 with (first | (go_at_call 143; (with_reducible refine (HFL.out _).mono ?_); rintro e w' ⟨rfl, rfl⟩) | (go_at_call 142; (with_reducible refine (HDT.out _).mono ?_); rintro e w' ⟨⟨y, mo, d, rfl, hd⟩, rfl⟩; (have HD := Lib.hid hd); clear hd))
  have hib := isDate_bd HD.out HNB.out
  obtain ⟨y1, y2, d2⟩ := hib
  have m1 := HD.out.m1
  have m2 := HD.out.m2
  have d1 := HD.out.d1
  obtain ⟨r1, hb⟩ := box1 w (.cells #[.int .i64 sec, .string ⟨part.toArray⟩, .bool zd, .int .i64 zn, .string ⟨sp.toArray⟩] 76)
  generalize World.alloc w _ = w2 at r1 hb ⊢
  have HB := Lib.hid hb
  have hp2 := HPW.out.below hb
  have HP2 := Lib.hid hp2
  clear r1 hb hp2
  obtain ⟨Y, hY⟩ : ∃ Y : Int, Y = if y < 0 then -y else y := ⟨_, rfl⟩
  have hYb : 0 ≤ Y ∧ Y ≤ 1100000000 := by rw [hY]; split <;> omega
  obtain ⟨hYb1, hYb2⟩ := hYb
  have p1 := fun w (h : Pow w) => HPD.out Y 4 w h (by omega) (by omega) (by omega)
  have p2 := fun w (h : Pow w) => HPD.out mo 2 w h (by omega) (by omega) (by omega)
  have p3 := fun w (h : Pow w) => HPD.out d 2 w h (by omega) (by omega) (by omega)
  have l1 := pdP_len Y 4 (by omega) (by omega) (by omega)
  have l2 := pdP_len mo 2 (by omega) (by omega) (by omega)
  have l3 := pdP_len d 2 (by omega) (by omega) (by omega)
  obtain ⟨A, hA⟩ : ∃ A : ByteArray, A = ⟨(pdP Y 4).toArray⟩ := ⟨_, rfl⟩
  obtain ⟨B, hB⟩ : ∃ B : ByteArray, B = ⟨(pdP mo 2).toArray⟩ := ⟨_, rfl⟩
  obtain ⟨C, hC⟩ : ∃ C : ByteArray, C = ⟨(pdP d 2).toArray⟩ := ⟨_, rfl⟩
  have p1 : ∀ w, Pow w → Calls Tryz.prog 144 #[.int .i64 Y, .int .i64 4] w fun e w' => e = .returned (.string A) ∧ Below w.heap.size w w' := fun w h => by rw [hA]; exact p1 w h
  have p2 : ∀ w, Pow w → Calls Tryz.prog 144 #[.int .i64 mo, .int .i64 2] w fun e w' => e = .returned (.string B) ∧ Below w.heap.size w w' := fun w h => by rw [hB]; exact p2 w h
  have p3 : ∀ w, Pow w → Calls Tryz.prog 144 #[.int .i64 d, .int .i64 2] w fun e w' => e = .returned (.string C) ∧ Below w.heap.size w w' := fun w h => by rw [hC]; exact p3 w h
  have hAs : A.size ≤ 21 := by rw [hA, sz_mk]; exact l1
  have hBs : B.size ≤ 21 := by rw [hB, sz_mk]; exact l2
  have hCs : C.size ≤ 21 := by rw [hC, sz_mk]; exact l3
  have hAd : A.data.toList = pdP Y 4 := by rw [hA]
  have hBd : B.data.toList = pdP mo 2 := by rw [hB]
  have hCd : C.data.toList = pdP d 2 := by rw [hC]
  have hdp : dtP y mo d = (if y < 0 then [45] else []) ++ A.data.toList ++ [45] ++ B.data.toList ++ [45] ++ C.data.toList := by unfold dtP; rw [hAd, hBd, hCd, hY]
  have hyd : decide ((if y < 0 then -y else y) ≤ 999999999) = decide (Y ≤ 999999999) := by rw [hY]
  have P1 := Lib.hid p1
  have P2 := Lib.hid p2
  have P3 := Lib.hid p3
  have HDP := Lib.hid hdp
  have HYD := Lib.hid hyd
  have HYY := Lib.hid hY
  clear p1 p2 p3 l1 l2 l3 hA hB hC hAd hBd hCd hdp hyd hY HPD HFL HDT
  have g1 : ∀ U : ByteArray, U.size ≤ 100 → (U ++ A).size ≤ 121 := fun U h => by rw [ByteArray.size_append]; omega
  have g2 : (A ++ ⟨#[45]⟩).size ≤ 22 := by rw [ByteArray.size_append]; show A.size + 1 ≤ _; omega
  have g3 : (A ++ ⟨#[45]⟩ ++ B).size ≤ 43 := by rw [ByteArray.size_append]; omega
  have g4 : (A ++ ⟨#[45]⟩ ++ B ++ ⟨#[45]⟩).size ≤ 44 := by rw [ByteArray.size_append]; show _ + 1 ≤ _; omega
  have k1 : ((⟨#[45]⟩ : ByteArray) ++ A).size ≤ 22 := by rw [ByteArray.size_append]; show 1 + A.size ≤ _; omega
  have k2 : ((⟨#[45]⟩ : ByteArray) ++ A ++ ⟨#[45]⟩).size ≤ 23 := by rw [ByteArray.size_append]; show _ + 1 ≤ _; omega
  have k3 : ((⟨#[45]⟩ : ByteArray) ++ A ++ ⟨#[45]⟩ ++ B).size ≤ 44 := by rw [ByteArray.size_append]; omega
  have k4 : ((⟨#[45]⟩ : ByteArray) ++ A ++ ⟨#[45]⟩ ++ B ++ ⟨#[45]⟩).size ≤ 45 := by rw [ByteArray.size_append]; show _ + 1 ≤ _; omega
  clear g1
  by_cases hy0 : y < 0
  · have hYe : -y = Y := by rw [HYY.out, if_pos hy0]
    have HYe := Lib.hid hYe
    clear hYe
    obtain ⟨yn, rfl⟩ : ∃ yn, y = -yn := ⟨-y, by omega⟩
    have hYn : yn = Y := by have := HYe.out; omega
    subst hYn
    go_wp2_with (first | (go_at_call 144; (with_reducible refine (P1.out _ HP2.out).mono ?_); rintro e w3 ⟨rfl, hb3⟩; (have HP3 := Lib.hid (HP2.out.below hb3))) | (go_at_call 144; (with_reducible refine (P2.out _ HP3.out).mono ?_); rintro e w4 ⟨rfl, hb4⟩; (have HP4 := Lib.hid (HP3.out.below hb4))) | (go_at_call 144; (with_reducible refine (P3.out _ HP4.out).mono ?_); rintro e w5 ⟨rfl, hb5⟩))
    have hend := ((HB.out.trans (hb3.mono HB.out.size)).trans (hb4.mono (Nat.le_trans HB.out.size hb3.size))).trans (hb5.mono (Nat.le_trans (Nat.le_trans HB.out.size hb3.size) hb4.size))
    refine bodyPost_ret (v := .tuple #[.string (⟨#[45]⟩ ++ A ++ ⟨#[45]⟩ ++ B ++ ⟨#[45]⟩ ++ C), .bool (decide (yn ≤ 999999999))]) (by simp [results, Tryz.results103, go_sem]) rfl ⟨-yn, mo, d, ?_, HD.out, hend⟩
    rw [HYD.out]
    exact rs_str2 (ba_ext (by rw [HDP.out, if_pos hy0]; simp))
  · have hYe : Y = y := by rw [HYY.out, if_neg hy0]
    subst hYe
    go_wp2_with (first | (go_at_call 144; (with_reducible refine (P1.out _ HP2.out).mono ?_); rintro e w3 ⟨rfl, hb3⟩; (have HP3 := Lib.hid (HP2.out.below hb3))) | (go_at_call 144; (with_reducible refine (P2.out _ HP3.out).mono ?_); rintro e w4 ⟨rfl, hb4⟩; (have HP4 := Lib.hid (HP3.out.below hb4))) | (go_at_call 144; (with_reducible refine (P3.out _ HP4.out).mono ?_); rintro e w5 ⟨rfl, hb5⟩))
    have hend := ((HB.out.trans (hb3.mono HB.out.size)).trans (hb4.mono (Nat.le_trans HB.out.size hb3.size))).trans (hb5.mono (Nat.le_trans (Nat.le_trans HB.out.size hb3.size) hb4.size))
    refine bodyPost_ret (v := .tuple #[.string (⟨#[]⟩ ++ A ++ ⟨#[45]⟩ ++ B ++ ⟨#[45]⟩ ++ C), .bool (decide (Y ≤ 999999999))]) (by simp [results, Tryz.results103, go_sem]) rfl ⟨Y, mo, d, ?_, HD.out, hend⟩
    rw [HYD.out]
    exact rs_str2 (ba_ext (by rw [HDP.out, if_neg (by omega)]; simp))
set_option maxHeartbeats 2000000 in
theorem clock_calls (m : Mt) (w : World) (hpw : Pow w) (hs : -34000000000000000 ≤ m.sec ∧ m.sec ≤ 34000000000000000) (hp : m.part.length ≤ 1000000000) :
    Calls Tryz.prog 104 #[m.val] w fun e w' => e = .returned (.string ⟨(ckP m.sec m.part).toArray⟩) ∧ Below w.heap.size w w' := by
  obtain ⟨sec, part, zd, zn, sp⟩ := m
  dsimp only at hs hp
  obtain ⟨hs1, hs2⟩ := hs
  have hfl := fun w => floor_calls sec 86400 w (by omega) (by omega) (by omega) (by omega)
  obtain ⟨q, hq⟩ : ∃ q, q = sec / 86400 := ⟨_, rfl⟩
  obtain ⟨n, hn⟩ : ∃ n, n = sec % 86400 := ⟨_, rfl⟩
  have hqn : sec - q * 86400 = n := by omega
  have hn0 : 0 ≤ n := by omega
  have hn1 : n < 86400 := by omega
  have hq1 : -400000000000 ≤ q := by omega
  have hq2 : q ≤ 400000000000 := by omega
  rw [← hq] at hfl
  have p1 := fun w (h : Pow w) => pad_calls (n / 3600) 2 w h (by omega) (by omega) (by omega)
  have p2 := fun w (h : Pow w) => pad_calls (n / 60 % 60) 2 w h (by omega) (by omega) (by omega)
  have p3 := fun w (h : Pow w) => pad_calls (n % 60) 2 w h (by omega) (by omega) (by omega)
  have l1 := pdP_len (n / 3600) 2 (by omega) (by omega) (by omega)
  have l2 := pdP_len (n / 60 % 60) 2 (by omega) (by omega) (by omega)
  have l3 := pdP_len (n % 60) 2 (by omega) (by omega) (by omega)
  obtain ⟨A, hA⟩ : ∃ A : ByteArray, A = ⟨(pdP (n / 3600) 2).toArray⟩ := ⟨_, rfl⟩
  obtain ⟨B, hB⟩ : ∃ B : ByteArray, B = ⟨(pdP (n / 60 % 60) 2).toArray⟩ := ⟨_, rfl⟩
  obtain ⟨C, hC⟩ : ∃ C : ByteArray, C = ⟨(pdP (n % 60) 2).toArray⟩ := ⟨_, rfl⟩
  have p1 : ∀ w, Pow w → Calls Tryz.prog 144 #[.int .i64 (n / 3600), .int .i64 2] w fun e w' => e = .returned (.string A) ∧ Below w.heap.size w w' := fun w h => by rw [hA]; exact p1 w h
  have p2 : ∀ w, Pow w → Calls Tryz.prog 144 #[.int .i64 (n / 60 % 60), .int .i64 2] w fun e w' => e = .returned (.string B) ∧ Below w.heap.size w w' := fun w h => by rw [hB]; exact p2 w h
  have p3 : ∀ w, Pow w → Calls Tryz.prog 144 #[.int .i64 (n % 60), .int .i64 2] w fun e w' => e = .returned (.string C) ∧ Below w.heap.size w w' := fun w h => by rw [hC]; exact p3 w h
  have hAs : A.size ≤ 21 := by rw [hA, sz_mk]; exact l1
  have hBs : B.size ≤ 21 := by rw [hB, sz_mk]; exact l2
  have hCs : C.size ≤ 21 := by rw [hC, sz_mk]; exact l3
  have hAd : A.data.toList = pdP (n / 3600) 2 := by rw [hA]
  have hBd : B.data.toList = pdP (n / 60 % 60) 2 := by rw [hB]
  have hCd : C.data.toList = pdP (n % 60) 2 := by rw [hC]
  obtain ⟨P, hP⟩ : ∃ P : ByteArray, P = ⟨part.toArray⟩ := ⟨_, rfl⟩
  have hPd : P.data.toList = part := by rw [hP]
  have hPs : P.size ≤ 1000000000 := by rw [hP, sz_mk]; exact hp
  have hpe := emp_ba part
  rw [← hP] at hpe
  obtain ⟨T, hT⟩ : ∃ T : ByteArray, T = ⟨(ckP sec part).toArray⟩ := ⟨_, rfl⟩
  have hTd : T.data.toList = A.data.toList ++ [58] ++ B.data.toList ++ [58] ++ C.data.toList ++ (if part = [] then [] else 46 :: P.data.toList) := by rw [hT, hAd, hBd, hCd, hPd, hn]; rfl
  dsimp only
  rw [← hT]
  unfold Mt.val
  dsimp only
  rw [← hP]
  have hcc : (A ++ ⟨#[58]⟩ ++ B ++ ⟨#[58]⟩ ++ C).size ≤ 65 := by simp only [ByteArray.size_append]; show A.size + 1 + B.size + 1 + C.size ≤ _; omega
  have hcb : (A ++ ⟨#[58]⟩ ++ B ++ ⟨#[58]⟩).size ≤ 65 := by simp only [ByteArray.size_append]; show A.size + 1 + B.size + 1 ≤ _; omega
  have hca : (A ++ ⟨#[58]⟩ ++ B).size ≤ 65 := by simp only [ByteArray.size_append]; show A.size + 1 + B.size ≤ _; omega
  have hcz : (A ++ ⟨#[58]⟩).size ≤ 65 := by simp only [ByteArray.size_append]; show A.size + 1 ≤ _; omega
  have hcp : ((⟨#[46]⟩ : ByteArray) ++ P).size ≤ 1000000001 := by simp only [ByteArray.size_append]; show 1 + P.size ≤ _; omega
  have P1 := Lib.hid p1
  have P2 := Lib.hid p2
  have P3 := Lib.hid p3
  have HTD := Lib.hid hTd
  have HFL := Lib.hid hfl
  have HPW := Lib.hid hpw
  have HQN := Lib.hid hqn
  have hw1 : IntKind.i64.wrap (q * 86400) = q * 86400 := by rw [IntKind.wrap_i64]; omega
  have hw2 : IntKind.i64.wrap (sec - q * 86400) = n := by rw [hqn, IntKind.wrap_i64]; omega
  clear p1 p2 p3 l1 l2 l3 hA hB hC hAd hBd hCd hP hPd hT hTd hfl hpw hqn hq hn hp
  go_enter Tryz.func104, Tryz.ntmps104
  go_upto_region 1 with fail
  obtain ⟨r1, hb⟩ := box1 w (.cells #[.int .i64 sec, .string P, .bool zd, .int .i64 zn, .string ⟨sp.toArray⟩] 76)
  generalize World.alloc w _ = w2 at r1 hb ⊢
  have hp2 := HPW.out.below hb
  have c0 := row_cell r1 0
  have c1 := row_cell r1 1
  simp at c0 c1
  clear r1
  have x0 := Lw.cell c0
  have x1 := Lw.cell c1
  refine wp_region_lw (by kernel_rfl) (by kernel_rfl) ?_
  repeat (go_big_quiet_step (first | exact rfl | (go_at_call 143; with_reducible exact lw_same (HFL.out _))))
  refine wpQuiet_nil ?_
  rintro ⟨w3, hb3⟩
  have u1 := x1 ⟨w3, hb3⟩
  have hp3 := hp2.below hb3
  dsimp only at u1 hp3 ⊢
  have hb4 := hb.trans (hb3.mono hb.size)
  have HP3 := Lib.hid hp3
  have HB4 := Lib.hid hb4
  clear x0 x1 c0 c1 hb hb3 hp2 hp3 hb4 hw1 hw2
  by_cases hpt : part = []
  · rw [decide_eq_true hpt] at hpe
    have HPT := Lib.hid hpt
    clear hpt
    go_wp2_with (first | (go_at_call 144; (with_reducible refine (P1.out _ HP3.out).mono ?_); rintro e w4 ⟨rfl, hb4⟩; (have HP4 := Lib.hid (HP3.out.below hb4)); (have v1 := (hb4.cell (p := ⟨w.heap.size, 1, none⟩) (block_lt_of_cell u1)).trans u1)) | (go_at_call 144; (with_reducible refine (P2.out _ HP4.out).mono ?_); rintro e w5 ⟨rfl, hb5⟩; (have HP5 := Lib.hid (HP4.out.below hb5)); (have v2 := (hb5.cell (p := ⟨w.heap.size, 1, none⟩) (block_lt_of_cell v1)).trans v1)) | (go_at_call 144; (with_reducible refine (P3.out _ HP5.out).mono ?_); rintro e w6 ⟨rfl, hb6⟩; (have v3 := (hb6.cell (p := ⟨w.heap.size, 1, none⟩) (block_lt_of_cell v2)).trans v2)))
    have hpt := HPT.out
    have hend := ((HB4.out.trans (hb4.mono HB4.out.size)).trans (hb5.mono (Nat.le_trans HB4.out.size hb4.size))).trans (hb6.mono (Nat.le_trans (Nat.le_trans HB4.out.size hb4.size) hb5.size))
    go_ret
    exact ⟨rs_str (ba_ext (by rw [HTD.out]; simp [hpt])), hend⟩
  · rw [decide_eq_false hpt] at hpe
    have HPT := Lib.hid hpt
    clear hpt
    go_wp2_with (first | (go_at_call 144; (with_reducible refine (P1.out _ HP3.out).mono ?_); rintro e w4 ⟨rfl, hb4⟩; (have HP4 := Lib.hid (HP3.out.below hb4)); (have v1 := (hb4.cell (p := ⟨w.heap.size, 1, none⟩) (block_lt_of_cell u1)).trans u1)) | (go_at_call 144; (with_reducible refine (P2.out _ HP4.out).mono ?_); rintro e w5 ⟨rfl, hb5⟩; (have HP5 := Lib.hid (HP4.out.below hb5)); (have v2 := (hb5.cell (p := ⟨w.heap.size, 1, none⟩) (block_lt_of_cell v1)).trans v1)) | (go_at_call 144; (with_reducible refine (P3.out _ HP5.out).mono ?_); rintro e w6 ⟨rfl, hb6⟩; (have v3 := (hb6.cell (p := ⟨w.heap.size, 1, none⟩) (block_lt_of_cell v2)).trans v2)))
    have hpt := HPT.out
    have hend := ((HB4.out.trans (hb4.mono HB4.out.size)).trans (hb5.mono (Nat.le_trans HB4.out.size hb4.size))).trans (hb6.mono (Nat.le_trans (Nat.le_trans HB4.out.size hb4.size) hb5.size))
    go_ret
    exact ⟨rs_str (ba_ext (by rw [HTD.out]; simp [hpt])), hend⟩
end Go.Proofs.YtlhcejbimlilaaaGreatDoor
