/- VbD VbE, laid as one. -/
import Derived.Test.YtlhcejbimlilaaaGreatDoorVbC
import Derived.Test.YtlhcejbimlilaaaGreatDoorVbN
set_option linter.unusedVariables false
set_option linter.unusedSimpArgs false
/- The program's Known, Check. -/
namespace Go.Proofs.YtlhcejbimlilaaaGreatDoor
open Go.RowKit Go.Tk
/-- What Check answers. -/
def chkE (t s : List UInt8) : Int := if 65536 < s.length then 2 else match kdOf t with
  | none => 0
  | some k => if isK k s = true then 0 else 80
theorem kdOf_cases (t : List UInt8) : (kdOf t = none ∧ (Lib.hasPrefix t xsd = false ∨ Lib.hasPrefix t xsd = true ∧ kdL (t.drop 33) = none)) ∨ ∃ k, kdOf t = some k ∧ Lib.hasPrefix t xsd = true ∧ kdL (t.drop 33) = some k := by
  unfold kdOf
  cases h : Lib.hasPrefix t xsd with
  | false => exact .inl ⟨rfl, .inl rfl⟩
  | true =>
    rw [if_pos rfl]
    cases h2 : kdL (t.drop 33) with
    | none => exact .inl ⟨rfl, .inr ⟨rfl, rfl⟩⟩
    | some k => exact .inr ⟨k, rfl, rfl, rfl⟩
theorem find_none' (t : ByteArray) (w : World) (h : kdOf t.data.toList = none) :
    Calls Tryz.prog 24 #[.string t] w fun e w' => e = .returned (.tuple #[.agg #[.int .i64 0, .nilFunc, .nilFunc], .bool false]) ∧ Below w.heap.size w w' := by
  rcases kdOf_cases t.data.toList with ⟨_, h1 | ⟨h1, h2⟩⟩ | ⟨k, hk, _⟩
  · exact find_no t w h1
  · exact find_none t w h1 h2
  · rw [h] at hk; cases hk
theorem find_some (t s : ByteArray) (k : Kd) (w : World) (hs : s.size ≤ 65536) (h : kdOf t.data.toList = some k) :
    Calls Tryz.prog 24 #[.string t] w (FdRow s k w) := by
  rcases kdOf_cases t.data.toList with ⟨h1, _⟩ | ⟨k', hk, h1, h2⟩
  · rw [h] at h1; cases h1
  · rw [h] at hk
    obtain rfl := Option.some.inj hk
    exact find_yes t s k w hs h1 h2
theorem enter_isF (k : Kd) (args : Array Value) (W : World) : (callFunc (isF k) args).run Tryz.prog W = .ok (.enter (isF k) args) W := by
  cases k <;> kernel_rfl
theorem enter_ownF (k : Kd) (args : Array Value) (W : World) : (callFunc (ownF k) args).run Tryz.prog W = .ok (.enter (ownF k) args) W := by
  cases k <;> kernel_rfl
theorem known_calls (t : ByteArray) (w : World) : Calls Tryz.prog 10 #[.string t] w fun e w' => e = .returned (.bool (kdOf t.data.toList).isSome) ∧ Below w.heap.size w w' := by
  cases hk : kdOf t.data.toList with
  | none =>
    have h := fun w => find_none' t w hk
    have H := Lib.hid h
    clear h hk
    go_enter Tryz.func10, Tryz.ntmps10
    go_wp2_with (go_at_call 24; (with_reducible refine (H.out _).mono ?_); rintro e w1 ⟨rfl, hb1⟩)
    go_ret
    exact ⟨rfl, hb1.trans ((Below.refl _ _).alloc hb1.size _)⟩
  | some k =>
    have h := fun w => find_some t ⟨#[]⟩ k w (by decide) hk
    obtain ⟨F, hF⟩ : ∃ F, F = isF k := ⟨_, rfl⟩
    obtain ⟨G, hG⟩ : ∃ F, F = ownF k := ⟨_, rfl⟩
    obtain ⟨f, hf⟩ : ∃ F, F = famK k := ⟨_, rfl⟩
    have h : ∀ w, Calls Tryz.prog 24 #[.string t] w fun e w' => ∃ caps : Array Value, e = .returned (.tuple #[.agg #[.int .i64 f, .func (.func F) #[] caps, .func (.func G) #[] #[]], .bool true]) ∧ Below w.heap.size w w' := fun w => (h w).mono fun e w' ⟨caps, a, b, _⟩ => ⟨caps, by rw [hF, hG, hf]; exact a, b⟩
    have H := Lib.hid h
    clear h hk hF hG hf
    go_enter Tryz.func10, Tryz.ntmps10
    go_wp2_with (go_at_call 24; (with_reducible refine (H.out _).mono ?_); rintro e w1 ⟨caps, rfl, hb1⟩)
    go_ret
    exact ⟨rfl, hb1.trans ((Below.refl _ _).alloc hb1.size _)⟩
set_option maxHeartbeats 1000000 in
theorem vcheck_calls (t s : ByteArray) (w : World) (hs : s.size ≤ 9223372036854775807) : Calls Tryz.prog 13 #[.string t, .string s] w fun e w' => e = .returned (.int .i64 (chkE t.data.toList s.data.toList)) ∧ Below w.heap.size w w' := by
  have hl : s.data.toList.length = s.size := (Lib.size_eq s).symm
  by_cases hz : 65536 < s.size
  · have e : chkE t.data.toList s.data.toList = 2 := by unfold chkE; rw [hl, if_pos hz]
    rw [e]
    have hz' : 65536 < (s.size : Int) := by omega
    clear e hl hz
    go_enter Tryz.func13, Tryz.ntmps13
    go_wp2_with fail
    go_ret
    exact ⟨rfl, Below.refl _ _⟩
  have hz' : (s.size : Int) ≤ 65536 := by omega
  have hz2 : s.size ≤ 65536 := by omega
  cases hk : kdOf t.data.toList with
  | none =>
    have e : chkE t.data.toList s.data.toList = 0 := by unfold chkE; rw [hl, if_neg hz, hk]
    rw [e]
    have h := fun w => find_none' t w hk
    have H := Lib.hid h
    clear h hk e hl hz
    go_enter Tryz.func13, Tryz.ntmps13
    go_wp2_with (go_at_call 24; (with_reducible refine (H.out _).mono ?_); rintro e w1 ⟨rfl, hb1⟩)
    go_ret
    exact ⟨rfl, hb1.trans ((Below.refl _ _).alloc hb1.size _)⟩
  | some k =>
    have e : chkE t.data.toList s.data.toList = if isK k s.data.toList = true then 0 else 80 := by unfold chkE; rw [hl, if_neg hz, hk]
    rw [e]
    have h := fun w => find_some t s k w hz2 hk
    have hcf := enter_isF k
    obtain ⟨F, hF⟩ : ∃ F, F = isF k := ⟨_, rfl⟩
    obtain ⟨G, hG⟩ : ∃ F, F = ownF k := ⟨_, rfl⟩
    obtain ⟨f, hf⟩ : ∃ F, F = famK k := ⟨_, rfl⟩
    obtain ⟨b, hb⟩ : ∃ b, b = isK k s.data.toList := ⟨_, rfl⟩
    have h : ∀ w, Calls Tryz.prog 24 #[.string t] w fun e w' => ∃ caps : Array Value, e = .returned (.tuple #[.agg #[.int .i64 f, .func (.func F) #[] caps, .func (.func G) #[] #[]], .bool true]) ∧ Below w.heap.size w w' ∧
      ∀ w2, Below w'.heap.size w' w2 → Calls Tryz.prog F (#[.string s] ++ caps) w2 fun e2 w3 => e2 = .returned (.bool b) ∧ Below w2.heap.size w2 w3 := fun w => (h w).mono fun e w' ⟨caps, a, b', c⟩ => ⟨caps, by rw [hF, hG, hf]; exact a, b', by rw [hF, hb]; exact c⟩
    rw [← hF] at hcf
    rw [← hb]
    have H := Lib.hid h
    clear h hk hF hG hf hb e hl hz
    cases b with
    | true =>
      rw [if_pos rfl]
      go_enter Tryz.func13, Tryz.ntmps13
      go_wp2_with (first | (go_at_call 24; (with_reducible refine (H.out _).mono ?_); rintro e w1 ⟨caps, rfl, hb1, his⟩; (have HIS := Lib.hid his); clear his) | ((with_reducible refine (HIS.out _ ((Below.refl _ _).alloc (Nat.le_refl _) _)).mono ?_); rintro e w3 ⟨rfl, hb3⟩))
      go_ret
      exact ⟨rfl, below_box hb1 _ hb3⟩
    | false =>
      rw [if_neg (by simp)]
      go_enter Tryz.func13, Tryz.ntmps13
      go_wp2_with (first | (go_at_call 24; (with_reducible refine (H.out _).mono ?_); rintro e w1 ⟨caps, rfl, hb1, his⟩; (have HIS := Lib.hid his); clear his) | ((with_reducible refine (HIS.out _ ((Below.refl _ _).alloc (Nat.le_refl _) _)).mono ?_); rintro e w3 ⟨rfl, hb3⟩))
      go_ret
      exact ⟨rfl, below_box hb1 _ hb3⟩
end Go.Proofs.YtlhcejbimlilaaaGreatDoor
/- The program's Canonical. -/
namespace Go.Tk
open Go Go.RowKit
/-- The date of a day. -/
noncomputable def dateF (n : Int) : Int × Int × Int := open Classical in if h : ∃ x : Int × Int × Int, IsDate n x.1 x.2.1 x.2.2 then h.choose else (0, 1, 1)
theorem dateF_eq {n y m d : Int} (h : IsDate n y m d) : dateF n = (y, m, d) := by
  have hx : ∃ x : Int × Int × Int, IsDate n x.1 x.2.1 x.2.2 := ⟨(y, m, d), h⟩
  unfold dateF
  rw [dif_pos hx]
  obtain ⟨a, b, c⟩ := hx.choose_spec.one h
  exact Prod.ext a (Prod.ext b c)
noncomputable def dtOw (n : Int) (tail : List UInt8) : Option (List UInt8) := if (if (dateF n).1 < 0 then -(dateF n).1 else (dateF n).1) ≤ 999999999 then some (dtP (dateF n).1 (dateF n).2.1 (dateF n).2.2 ++ tail) else none
end Go.Tk
namespace Go.Proofs.YtlhcejbimlilaaaGreatDoor
open Go.RowKit Go.Tk
/-- The own text of a datatype's text. -/
noncomputable def ownE (k : Kd) (s : List UInt8) : Option (List UInt8) := match k with
  | .str => some s
  | .boo => some (truP s)
  | .dec => (decP s).map plN
  | .dbl => (dblP s).bind scN
  | .dtm => (rdDT s).bind fun m => dtOw ((utM m).sec / 86400) ([84] ++ ckP (utM m).sec (utM m).part ++ (utM m).sp)
  | .dat => (rdDay s).bind fun m => dtOw (m.sec / 86400) m.sp
  | .tim => (rdClk s).map fun m => ckP m.sec m.part ++ m.sp
  | .hex => some (gtP s)
  | .b64 => some s
  | .int _ _ => (intP s).map whN
def OwP (o : Option (List UInt8)) (w : World) (e : Ending) (w' : World) : Prop := ∃ T : ByteArray, e = .returned (.tuple #[.string T, .bool o.isSome]) ∧ (∀ t, o = some t → T = ⟨t.toArray⟩) ∧ Below w.heap.size w w'
theorem OwP.of {t : List UInt8} {w : World} {e : Ending} {w' : World} (h : e = .returned (.tuple #[.string ⟨t.toArray⟩, .bool true]) ∧ Below w.heap.size w w') : OwP (some t) w e w' := ⟨_, h.1, fun _ ht => by rw [Option.some.inj ht], h.2⟩
theorem OwP.dt {n : Int} {tail : List UInt8} {w : World} {e : Ending} {w' : World} (h : DtP2 n tail w e w') : OwP (dtOw n tail) w e w' := by
  obtain ⟨y, m, d, he, hd, hb⟩ := h
  have hF := dateF_eq hd
  unfold dtOw
  rw [hF]
  dsimp only
  obtain ⟨Y, hY⟩ : ∃ Y, Y = if y < 0 then -y else y := ⟨_, rfl⟩
  rw [← hY] at he ⊢
  clear hY
  by_cases h9 : Y ≤ 999999999
  · rw [decide_eq_true h9] at he
    rw [if_pos h9]
    exact ⟨_, he, fun t ht => by rw [Option.some.inj ht], hb⟩
  · rw [decide_eq_false h9] at he
    rw [if_neg h9]
    exact ⟨_, he, fun t ht => (by cases ht), hb⟩
theorem witP_int {s lo hi : List UInt8} (h : witP s lo hi = true) : ∃ n, intP s = some n := by
  unfold witP at h
  cases hn : intP s with
  | some n => exact ⟨n, rfl⟩
  | none => rw [hn] at h; simp at h
theorem own_calls (k : Kd) (s : ByteArray) (w : World) (hpw : Pow w) (hs : s.size ≤ 65536) (hk : isK k s.data.toList = true) :
    Calls Tryz.prog (ownF k) #[.string s] w (OwP (ownE k s.data.toList) w) := by
  cases k with
  | str => exact (same_calls s w).mono fun e w' ⟨a, b⟩ => OwP.of ⟨a, b ▸ Below.refl _ _⟩
  | boo => exact (truth_calls s w).mono fun e w' ⟨a, b⟩ => OwP.of ⟨a, b ▸ Below.refl _ _⟩
  | dec =>
    obtain ⟨n, hn⟩ := Option.isSome_iff_exists.1 (show (decP s.data.toList).isSome = true from hk)
    have e : ownE .dec s.data.toList = some (plN n) := by unfold ownE; rw [hn]; rfl
    rw [e]
    exact (ownDecimal_calls s n w hs hn).mono fun e w' h => OwP.of h
  | dbl =>
    obtain ⟨n, hn⟩ := Option.isSome_iff_exists.1 (show (dblP s.data.toList).isSome = true from hk)
    have e : ownE .dbl s.data.toList = scN n := by unfold ownE; rw [hn]; rfl
    rw [e]
    exact (ownDouble_calls s n w hs hn hpw).mono fun e w' ⟨a, b⟩ => ⟨_, a, fun t ht => by rw [ht]; rfl, b⟩
  | dtm =>
    obtain ⟨m, hm⟩ := Option.isSome_iff_exists.1 (show (rdDT s.data.toList).isSome = true from hk)
    have e : ownE .dtm s.data.toList = dtOw ((utM m).sec / 86400) ([84] ++ ckP (utM m).sec (utM m).part ++ (utM m).sp) := by unfold ownE; rw [hm]; rfl
    rw [e]
    exact (ownDateTime_calls s m w hpw hs hm).mono fun e w' h => OwP.dt h
  | dat =>
    obtain ⟨m, hm⟩ := Option.isSome_iff_exists.1 (show (rdDay s.data.toList).isSome = true from hk)
    have e : ownE .dat s.data.toList = dtOw (m.sec / 86400) m.sp := by unfold ownE; rw [hm]; rfl
    rw [e]
    exact (ownDate_calls s m w hpw hs hm).mono fun e w' h => OwP.dt h
  | tim =>
    obtain ⟨m, hm⟩ := Option.isSome_iff_exists.1 (show (rdClk s.data.toList).isSome = true from hk)
    have e : ownE .tim s.data.toList = some (ckP m.sec m.part ++ m.sp) := by unfold ownE; rw [hm]; rfl
    rw [e]
    exact (ownTime_calls s m w hpw hs hm).mono fun e w' h => OwP.of h
  | hex => exact (great_calls s w (by omega)).mono fun e w' h => OwP.of h
  | b64 => exact (same_calls s w).mono fun e w' ⟨a, b⟩ => OwP.of ⟨a, b ▸ Below.refl _ _⟩
  | int lo hi =>
    obtain ⟨n, hn⟩ := witP_int (show witP s.data.toList lo hi = true from hk)
    have e : ownE (.int lo hi) s.data.toList = some (whN n) := by unfold ownE; rw [hn]; rfl
    rw [e]
    exact (ownInteger_calls s n w hs hn).mono fun e w' h => OwP.of h
def canO : Option (List UInt8) → List UInt8 × Int
  | none => ([], 80)
  | some x => if 65536 < x.length then ([], 2) else (x, 0)
/-- What Canonical answers. -/
noncomputable def canE (t s : List UInt8) : List UInt8 × Int := if chkE t s ≠ 0 then ([], chkE t s) else match kdOf t with
  | none => (s, 0)
  | some k => canO (ownE k s)
theorem chkE_zero {t s : List UInt8} (h : chkE t s = 0) : s.length ≤ 65536 ∧ ∀ k, kdOf t = some k → isK k s = true := by
  unfold chkE at h
  split at h
  · cases h
  refine ⟨by omega, fun k hk => ?_⟩
  rw [hk] at h
  dsimp only at h
  split at h
  · assumption
  · cases h
theorem chkE_bd (t s : List UInt8) : 0 ≤ chkE t s ∧ chkE t s ≤ 80 := by
  unfold chkE
  split
  · omega
  split
  · omega
  split <;> omega
set_option maxHeartbeats 1000000 in
theorem canonical_calls (t s : ByteArray) (w : World) (hpw : Pow w) (hs : s.size ≤ 9223372036854775807) : Calls Tryz.prog 15 #[.string t, .string s] w fun e w' => e = .returned (.tuple #[.string ⟨(canE t.data.toList s.data.toList).1.toArray⟩, .int .i64 (canE t.data.toList s.data.toList).2]) ∧ Below w.heap.size w w' := by
  have hl : s.data.toList.length = s.size := (Lib.size_eq s).symm
  have hc := fun w => vcheck_calls t s w hs
  have hbd := chkE_bd t.data.toList s.data.toList
  by_cases hz : chkE t.data.toList s.data.toList ≠ 0
  · have e : canE t.data.toList s.data.toList = ([], chkE t.data.toList s.data.toList) := by unfold canE; rw [if_pos hz]
    rw [e]
    dsimp only
    obtain ⟨c, hcc⟩ : ∃ c, c = chkE t.data.toList s.data.toList := ⟨_, rfl⟩
    rw [← hcc] at hc hz hbd ⊢
    have H := Lib.hid hc
    clear e hl hc hcc hpw
    go_enter Tryz.func15, Tryz.ntmps15
    go_wp2_with (go_at_call 13; (with_reducible refine (H.out _).mono ?_); rintro e w1 ⟨rfl, hb1⟩)
    go_ret2
    exact ⟨rfl, hb1⟩
  have hz0 : chkE t.data.toList s.data.toList = 0 := by omega
  have hck := chkE_zero hz0
  rw [hl] at hck
  have hs2 := hck.1
  rw [hz0] at hc
  have HC := Lib.hid hc
  clear hc hbd
  cases hk : kdOf t.data.toList with
  | none =>
    have e : canE t.data.toList s.data.toList = (s.data.toList, 0) := by unfold canE; rw [if_neg hz, hk]
    rw [e]
    dsimp only
    rw [str_mk]
    have h := fun w => find_none' t w hk
    have H := Lib.hid h
    clear h hk e hl hz hz0 hck hpw
    go_enter Tryz.func15, Tryz.ntmps15
    go_wp2_with (first | (go_at_call 13; (with_reducible refine (HC.out _).mono ?_); rintro e w1 ⟨rfl, hb1⟩) | (go_at_call 24; (with_reducible refine (H.out _).mono ?_); rintro e w2 ⟨rfl, hb2⟩))
    go_ret2
    exact ⟨rfl, (hb1.trans (hb2.mono hb1.size)).trans ((Below.refl _ _).alloc (hb1.trans (hb2.mono hb1.size)).size _)⟩
  | some k =>
    have hki := hck.2 k hk
    have h := fun w => find_some t s k w hs2 hk
    have hcf := enter_ownF k
    have how := fun w hp => own_calls k s w hp hs2 hki
    obtain ⟨o, ho⟩ : ∃ o, o = ownE k s.data.toList := ⟨_, rfl⟩
    have e : canE t.data.toList s.data.toList = canO o := by unfold canE; rw [if_neg hz, hk, ho]
    rw [e]
    rw [← ho] at how
    obtain ⟨F, hF⟩ : ∃ F, F = isF k := ⟨_, rfl⟩
    obtain ⟨G, hG⟩ : ∃ F, F = ownF k := ⟨_, rfl⟩
    obtain ⟨f, hf⟩ : ∃ F, F = famK k := ⟨_, rfl⟩
    have h : ∀ w, Calls Tryz.prog 24 #[.string t] w fun e w' => ∃ caps : Array Value, e = .returned (.tuple #[.agg #[.int .i64 f, .func (.func F) #[] caps, .func (.func G) #[] #[]], .bool true]) ∧ Below w.heap.size w w' := fun w => (h w).mono fun e w' ⟨caps, a, b', c⟩ => ⟨caps, by rw [hF, hG, hf]; exact a, b'⟩
    rw [← hG] at hcf how
    have H := Lib.hid h
    have HP := Lib.hid hpw
    clear h hk hF hG hf e hl hz hz0 hck hpw hki ho
    cases o with
    | none =>
      show Calls _ _ _ _ fun e w' => e = .returned (.tuple #[.string ⟨#[]⟩, .int .i64 80]) ∧ _
      have how : ∀ w, Pow w → Calls Tryz.prog G #[.string s] w fun e w' => ∃ T : ByteArray, e = .returned (.tuple #[.string T, .bool false]) ∧ Below w.heap.size w w' := fun w hp => (how w hp).mono fun e w' ⟨T, a, _, b⟩ => ⟨T, a, b⟩
      have HO := Lib.hid how
      clear how
      go_enter Tryz.func15, Tryz.ntmps15
      go_wp2_with (first | (go_at_call 13; (with_reducible refine (HC.out _).mono ?_); rintro e w1 ⟨rfl, hb1⟩) | (go_at_call 24; (with_reducible refine (H.out _).mono ?_); rintro e w2 ⟨caps, rfl, hb2⟩; (have hb3 := hb1.trans (hb2.mono hb1.size))) | ((with_reducible refine (HO.out _ (HP.out.below (hb3.alloc hb3.size _))).mono ?_); rintro e w4 ⟨T, rfl, hb4⟩))
      go_ret2
      exact ⟨rfl, below_box hb3 _ hb4⟩
    | some x =>
      unfold canO
      dsimp only
      have how : ∀ w, Pow w → Calls Tryz.prog G #[.string s] w fun e w' => e = .returned (.tuple #[.string ⟨x.toArray⟩, .bool true]) ∧ Below w.heap.size w w' := fun w hp => (how w hp).mono fun e w' ⟨T, a, c, b⟩ => ⟨by rw [← c x rfl]; exact a, b⟩
      obtain ⟨T, hT⟩ : ∃ T : ByteArray, T = ⟨x.toArray⟩ := ⟨_, rfl⟩
      have hxl : x.length = T.size := by rw [hT, sz_mk]
      rw [← hT] at how
      rw [hxl]
      have HO := Lib.hid how
      clear how hxl
      by_cases h6 : 65536 < T.size
      · rw [if_pos h6]
        have h6' : (65536 : Int) < (T.size : Int) := by omega
        clear hT h6
        dsimp only
        go_enter Tryz.func15, Tryz.ntmps15
        go_wp2_with (first | (go_at_call 13; (with_reducible refine (HC.out _).mono ?_); rintro e w1 ⟨rfl, hb1⟩) | (go_at_call 24; (with_reducible refine (H.out _).mono ?_); rintro e w2 ⟨caps, rfl, hb2⟩; (have hb3 := hb1.trans (hb2.mono hb1.size))) | ((with_reducible refine (HO.out _ (HP.out.below (hb3.alloc hb3.size _))).mono ?_); rintro e w4 ⟨rfl, hb4⟩))
        go_ret2
        exact ⟨rfl, below_box hb3 _ hb4⟩
      · rw [if_neg h6]
        have h6' : (T.size : Int) ≤ 65536 := by omega
        dsimp only
        rw [← hT]
        clear hT h6
        go_enter Tryz.func15, Tryz.ntmps15
        go_wp2_with (first | (go_at_call 13; (with_reducible refine (HC.out _).mono ?_); rintro e w1 ⟨rfl, hb1⟩) | (go_at_call 24; (with_reducible refine (H.out _).mono ?_); rintro e w2 ⟨caps, rfl, hb2⟩; (have hb3 := hb1.trans (hb2.mono hb1.size))) | ((with_reducible refine (HO.out _ (HP.out.below (hb3.alloc hb3.size _))).mono ?_); rintro e w4 ⟨rfl, hb4⟩))
        go_ret2
        exact ⟨rfl, below_box hb3 _ hb4⟩
end Go.Proofs.YtlhcejbimlilaaaGreatDoor
