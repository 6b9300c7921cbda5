/- VgD ValueOrders, laid as one. -/
import Derived.Test.YtlhcejbimlilaaaGreatDoorVgC
import Derived.Test.YtlhcejbimlilaaaGreatDoorVeB
import Derived.Test.YtlhcejbimlilaaaGreatDoorVdZ
import Derived.Test.YtlhcejbimlilaaaGreatDoorVbJ
set_option linter.unusedVariables false
set_option linter.unusedSimpArgs false
/- The document's Compare, whole; its Equal. -/
namespace Go.Proofs.YtlhcejbimlilaaaGreatDoor
open Go.RowKit Go.Tk
/-- The number of a text of a kind. -/
def nuO (k : Kd) (s : List UInt8) : Option Nm := match k with
  | .dec => decP s
  | .int _ _ => decP s
  | .dbl => dblP s
  | _ => none
def ifN8 (n : Nm) : Bool := decide (n.inf ≠ 0)
def ngN8 (n : Nm) : Bool := n.below || decide (n.inf < 0)
theorem nuC_of {l : Int} {lo hi x : ByteArray} {n : Nm} {b : Bool} (h : ∀ (nm : ByteArray) w, Calls Tryz.prog 39 #[.agg #[.string nm, .int .i64 l, .string lo, .string hi], .string x] w fun e w' => e = .returned (.tuple #[rnV n, .bool b]) ∧ Below w.heap.size w w') :
    NuC l lo hi x n.nan (ifN8 n) (ngN8 n) ⟨n.dg.toArray⟩ n.pw b := h
theorem nu_all (k : Kd) (x : ByteArray) (hx : x.size ≤ 65536) : NuC (lkK k) ⟨(loK k).toArray⟩ ⟨(hiK k).toArray⟩ x ((nuO k x.data.toList).getD nmZ).nan (ifN8 ((nuO k x.data.toList).getD nmZ)) (ngN8 ((nuO k x.data.toList).getD nmZ)) ⟨((nuO k x.data.toList).getD nmZ).dg.toArray⟩ ((nuO k x.data.toList).getD nmZ).pw (nuO k x.data.toList).isSome := by
  have hd : ∀ w, Calls Tryz.prog 70 #[.string x, .int .i64 0] w (RdD (decP x.data.toList) w) := fun w => rdecimal_calls x 0 w (by omega) (by omega) (by omega)
  cases k with
  | dec => exact nuC_of fun nm w => num_3 nm _ _ x w _ _ _ _ _ _ hd
  | int lo hi => exact nuC_of fun nm w => num_4 nm _ _ x w _ _ _ _ _ _ hd
  | dbl => exact nuC_of fun nm w => num_5 nm _ _ x w _ _ _ _ _ _ fun w => rdouble_calls x w (by omega)
  | str => exact fun nm w => num_no nm _ _ x 1 w rfl rfl rfl
  | boo => exact fun nm w => num_no nm _ _ x 2 w rfl rfl rfl
  | dtm => exact fun nm w => num_no nm _ _ x 6 w rfl rfl rfl
  | dat => exact fun nm w => num_no nm _ _ x 7 w rfl rfl rfl
  | tim => exact fun nm w => num_no nm _ _ x 8 w rfl rfl rfl
  | hex => exact fun nm w => num_no nm _ _ x 9 w rfl rfl rfl
  | b64 => exact fun nm w => num_no nm _ _ x 10 w rfl rfl rfl
theorem nuO_dbl {k : Kd} {s : List UInt8} {n : Nm} (h : nuO k s = some n) : famK k = 2 ∧ dblP s = some n := by
  cases k with
  | dec => exact ⟨rfl, dec_dbl h⟩
  | int lo hi => exact ⟨rfl, dec_dbl h⟩
  | dbl => exact ⟨rfl, h⟩
  | _ => cases h
theorem nuO_no {k : Kd} {s : List UInt8} (hk : isK k s = true) (h : nuO k s = none) : famK k ≠ 2 := by
  cases k with
  | dec =>
    have : (decP s).isSome = true := hk
    rw [show decP s = none from h] at this; cases this
  | int lo hi =>
    obtain ⟨n, hn⟩ : ∃ n, intP s = some n := by
      have h2 : witP s lo hi = true := hk
      unfold witP at h2
      cases hn : intP s with
      | some n => exact ⟨n, rfl⟩
      | none => rw [hn] at h2; simp at h2
    have := dec_of_int8 hn
    rw [show decP s = none from h] at this; cases this
  | dbl =>
    have : (dblP s).isSome = true := hk
    rw [show dblP s = none from h] at this; cases this
  | _ => decide
theorem lk_fam {k l : Kd} (h : famK k ≠ 2) : famK k = famK l ↔ k = l := by
  constructor
  · intro e
    rcases fam_cases k l e with ⟨a, _⟩ | ⟨a, _⟩
    · exact absurd a h
    · exact a
  · intro e; rw [e]
theorem lk_ne {k l : Kd} (h : famK k ≠ 2) (hl : k ≠ l) : lkK k ≠ lkK l := by
  cases k <;> cases l <;> simp [famK, lkK] at *
theorem lk_ne2 {k l : Kd} (h : famK k = 2) (hl : famK l ≠ 2) : lkK k ≠ lkK l := by
  cases k <;> cases l <;> simp [famK, lkK] at *
theorem lk_pos (k : Kd) : lkK k ≠ 0 := by cases k <;> simp [lkK]
theorem agN_nan {n m : Nm} (h : n.nan = true ∨ m.nan = true) : agN n m = (0, false) := by unfold agN; rw [if_pos h]
theorem agN_ok {n m : Nm} (h1 : n.nan = false) (h2 : m.nan = false) : (agN n m).2 = true := by
  unfold agN
  rw [if_neg (by simp [h1, h2])]
  split <;> rfl
theorem boo_own (lo hi s : ByteArray) : OwC lo hi s ⟨(truP s.data.toList).toArray⟩ := fun nm w => by
  by_cases h1 : s.data.toList = [49]
  · have e : s = ⟨#[49]⟩ := by rw [← str_mk s, h1]
    have e2 : truP s.data.toList = tTrue := by unfold truP; rw [if_pos (.inl h1)]
    rw [e2]
    exact own_2a nm _ _ s w e
  by_cases h2 : s.data.toList = tTrue
  · have e : s = ⟨#[116, 114, 117, 101]⟩ := by rw [← str_mk s, h2]; rfl
    have e2 : truP s.data.toList = tTrue := by unfold truP; rw [if_pos (.inr h2)]
    rw [e2]
    exact own_2b nm _ _ s w e
  · have e2 : truP s.data.toList = tFalse := by unfold truP; rw [if_neg (by rintro (h | h); exact h1 h; exact h2 h)]
    rw [e2]
    exact own_2n nm _ _ s w (st_ne8 h1) (st_ne8 h2)
theorem re_ok {lk : Int} {x : ByteArray} {b : Bool} {P : Mo8 → Prop} (h : ∀ w, Calls Tryz.prog 44 #[.string x, .int .i64 lk] w (RePost b P w)) (hb : b = true) : RdC lk x P := fun w =>
  (h w).mono fun e w' ⟨m, h1, h2, h3⟩ => ⟨m, by rw [h1, hb], h2, h3 hb⟩
/-- The document's Compare. -/
theorem rcmp_calls (a b : Tm) (w : World) (ha : a.tx.size ≤ 9223372036854775807) (hb : b.tx.size ≤ 9223372036854775807) :
    Calls Tryz.prog 18 #[a.val, b.val] w fun e w' => e = .returned (.tuple #[.int .i64 (cmpE a b).1, .bool (cmpE a b).2]) ∧ Below w.heap.size w w' := by
  obtain ⟨ka, xa, ta, la⟩ := a
  obtain ⟨kb, xb, tb, lb⟩ := b
  dsimp only at ha hb
  unfold Tm.val
  dsimp only
  have hE : cmpE ⟨ka, xa, ta, la⟩ ⟨kb, xb, tb, lb⟩ = if vdOk ka ta.data.toList xa.data.toList = true ∧ vdOk kb tb.data.toList xb.data.toList = true ∧ famT ta.data.toList = famT tb.data.toList then cmpF (famT ta.data.toList) xa.data.toList xb.data.toList else (0, false) := rfl
  rw [hE]
  clear hE
  have hk1 : KnC ta (lkO (kdOf ta.data.toList)) ⟨(loO (kdOf ta.data.toList)).toArray⟩ ⟨(hiO (kdOf ta.data.toList)).toArray⟩ := fun w => kindOf_calls ta w
  have hk2 : KnC tb (lkO (kdOf tb.data.toList)) ⟨(loO (kdOf tb.data.toList)).toArray⟩ ⟨(hiO (kdOf tb.data.toList)).toArray⟩ := fun w => kindOf_calls tb w
  have hc1 : CkC ta xa (chkE ta.data.toList xa.data.toList) := fun w => rcheck_calls8 ta xa w (fun h w => hexed_T xa w h) (fun h w => base64_T xa w h) ha
  have hc2 : CkC tb xb (chkE tb.data.toList xb.data.toList) := fun w => rcheck_calls8 tb xb w (fun h w => hexed_T xb w h) (fun h w => base64_T xb w h) hb
  have no1 : vdOk ka ta.data.toList xa.data.toList = false → (if vdOk ka ta.data.toList xa.data.toList = true ∧ vdOk kb tb.data.toList xb.data.toList = true ∧ famT ta.data.toList = famT tb.data.toList then cmpF (famT ta.data.toList) xa.data.toList xb.data.toList else (0, false)) = (0, false) := fun h => if_neg (by rw [h]; simp)
  have no2 : vdOk kb tb.data.toList xb.data.toList = false → (if vdOk ka ta.data.toList xa.data.toList = true ∧ vdOk kb tb.data.toList xb.data.toList = true ∧ famT ta.data.toList = famT tb.data.toList then cmpF (famT ta.data.toList) xa.data.toList xb.data.toList else (0, false)) = (0, false) := fun h => if_neg (by rw [h]; simp)
  by_cases a3 : ka = 3
  · by_cases b3 : kb = 3
    · cases hka : kdOf ta.data.toList with
      | none =>
        rw [no1 (vdOk_none hka)]
        rw [hka] at hk1
        exact cp_r2 ka kb xa ta la xb tb lb w _ _ _ _ _ _ hk1 hk2 a3 b3 rfl
      | some k =>
        rw [hka] at hk1
        cases hkb : kdOf tb.data.toList with
        | none =>
          rw [no2 (vdOk_none hkb)]
          rw [hkb] at hk2
          exact cp_r3 ka kb xa ta la xb tb lb w _ _ _ _ _ _ hk1 hk2 a3 b3 (lk_pos k) rfl
        | some l =>
          rw [hkb] at hk2
          by_cases c1 : chkE ta.data.toList xa.data.toList = 0
          · by_cases c2 : chkE tb.data.toList xb.data.toList = 0
            · have v1 : vdOk ka ta.data.toList xa.data.toList = true := by unfold vdOk; rw [hka, decide_eq_true a3, decide_eq_true c1]; rfl
              have v2 : vdOk kb tb.data.toList xb.data.toList = true := by unfold vdOk; rw [hkb, decide_eq_true b3, decide_eq_true c2]; rfl
              have e1 : famT ta.data.toList = famK k := by unfold famT; rw [hka]
              have e2 : famT tb.data.toList = famK l := by unfold famT; rw [hkb]
              rw [v1, v2, e1, e2]
              obtain ⟨s1, i1⟩ := chkE_zero c1
              obtain ⟨s2, i2⟩ := chkE_zero c2
              have i1 := i1 k hka
              have i2 := i2 l hkb
              rw [← Lib.size_eq] at s1 s2
              rw [c1] at hc1
              rw [c2] at hc2
              have n1 := nu_all k xa s1
              have n2 := nu_all l xb s2
              clear no1 no2 v1 v2 e1 e2 ha hb
              subst a3 b3
              cases h1 : nuO k xa.data.toList with
              | some n =>
                obtain ⟨f1, d1⟩ := nuO_dbl h1
                rw [h1] at n1
                cases h2 : nuO l xb.data.toList with
                | some m =>
                  obtain ⟨f2, d2⟩ := nuO_dbl h2
                  rw [h2] at n2
                  rw [if_pos ⟨rfl, rfl, by rw [f1, f2]⟩, f1]
                  have e : cmpF 2 xa.data.toList xb.data.toList = agN n m := by show agN (nuN _) (nuN _) = _; unfold nuN; rw [d1, d2]; rfl
                  rw [e]
                  have n1 : NuC (lkK k) ⟨(loK k).toArray⟩ ⟨(hiK k).toArray⟩ xa n.nan (ifN8 n) (ngN8 n) ⟨n.dg.toArray⟩ n.pw true := n1
                  have n2 : NuC (lkK l) ⟨(loK l).toArray⟩ ⟨(hiK l).toArray⟩ xb m.nan (ifN8 m) (ngN8 m) ⟨m.dg.toArray⟩ m.pw true := n2
                  cases na : n.nan with
                  | true =>
                    rw [agN_nan (.inl na)]
                    rw [na] at n1
                    exact cp_nan1 xa ta la xb tb lb w _ _ _ _ _ _ hk1 hk2 (lk_pos k) (lk_pos l) hc1 hc2 _ _ _ _ _ _ _ _ _ n1 n2
                  | false =>
                    cases nb : m.nan with
                    | true =>
                      rw [agN_nan (.inr nb)]
                      rw [na] at n1
                      rw [nb] at n2
                      exact cp_nan2 xa ta la xb tb lb w _ _ _ _ _ _ hk1 hk2 (lk_pos k) (lk_pos l) hc1 hc2 _ _ _ _ _ _ _ _ n1 n2
                    | false =>
                      have ho := fun w => rorder_nm d1 d2 na nb w
                      rw [agN_ok na nb]
                      have ho : ∀ w, Calls Tryz.prog 40 #[.agg #[.bool n.nan, .bool (ifN8 n), .bool (ngN8 n), .string ⟨n.dg.toArray⟩, .int .i64 n.pw], .agg #[.bool m.nan, .bool (ifN8 m), .bool (ngN8 m), .string ⟨m.dg.toArray⟩, .int .i64 m.pw]] w fun e w' => e = .returned (.int .i64 (agN n m).1) ∧ Below w.heap.size w w' := ho
                      rw [na] at n1 ho
                      rw [nb] at n2 ho
                      exact cp_num xa ta la xb tb lb w _ _ _ _ _ _ hk1 hk2 (lk_pos k) (lk_pos l) hc1 hc2 _ _ _ _ _ _ _ _ n1 n2 _ ho
                | none =>
                  have f2 := nuO_no i2 h2
                  rw [h2] at n2
                  rw [if_neg (fun h => f2 (by rw [← h.2.2]; exact f1))]
                  exact cp_dift xa ta la xb tb lb w _ _ _ _ _ _ hk1 hk2 (lk_pos k) (lk_pos l) hc1 hc2 _ _ _ _ _ _ _ _ _ _ n1 n2 (lk_ne2 f1 f2)
              | none =>
                have f1 := nuO_no i1 h1
                rw [h1] at n1
                by_cases hkl : k = l
                · subst hkl
                  rw [if_pos ⟨rfl, rfl, rfl⟩]
                  have h2 : nuO k xb.data.toList = none := by
                    cases h2 : nuO k xb.data.toList with
                    | none => rfl
                    | some m => exact absurd (nuO_dbl h2).1 f1
                  rw [h2] at n2
                  cases k with
                  | dec => exact absurd rfl f1
                  | dbl => exact absurd rfl f1
                  | int lo hi => exact absurd rfl f1
                  | str => exact cp_str xa ta la xb tb lb w _ _ _ _ hk1 hk2 hc1 hc2 _ _ _ _ _ _ _ _ _ _ n1 n2 _ fun w => rtexts_calls xa xb w
                  | boo => exact cp_boo xa ta la xb tb lb w _ _ _ _ hk1 hk2 hc1 hc2 _ _ _ _ _ _ _ _ _ _ n1 n2 _ _ _ (boo_own _ _ xa) (boo_own _ _ xb) fun w => rtexts_calls _ _ w
                  | hex =>
                    have hv : ∀ x : ByteArray, x.size ≤ 65536 → (hexP (gtP x.data.toList)).isSome = true → VbC 42 x ((hexP (gtP x.data.toList)).getD []) := fun x hx hs w => (hexed_V x w hx).mono fun e w' ⟨V, g1, g2, g3⟩ => ⟨V, by rw [g1, hs], g2, by
                      obtain ⟨bs, hbs⟩ := Option.isSome_iff_exists.1 hs
                      have := g3 hs
                      rw [← hxZ_nums _ _ hbs] at this
                      rw [hbs]; exact this⟩
                    exact cp_hex xa ta la xb tb lb w _ _ _ _ hk1 hk2 hc1 hc2 _ _ _ _ _ _ _ _ _ _ n1 n2 _ _ _ (hv xa s1 i1) (hv xb s2 i2) fun w => rtexts_calls _ _ w
                  | b64 =>
                    have hv : ∀ x : ByteArray, x.size ≤ 65536 → (b6R x.data.toList).2 = true → VbC 43 x (b6R x.data.toList).1 := fun x hx hs w => (base64_V x w hx).mono fun e w' ⟨V, g1, g2, g3⟩ => ⟨V, by rw [g1, hs], g2, g3 hs⟩
                    exact cp_b64 xa ta la xb tb lb w _ _ _ _ hk1 hk2 hc1 hc2 _ _ _ _ _ _ _ _ _ _ n1 n2 _ _ _ (hv xa s1 i1) (hv xb s2 i2) fun w => rtexts_calls _ _ w
                  | dtm =>
                    obtain ⟨M, hM⟩ := Option.isSome_iff_exists.1 (show (rdDT xa.data.toList).isSome = true from i1)
                    obtain ⟨N, hN⟩ := Option.isSome_iff_exists.1 (show (rdDT xb.data.toList).isSome = true from i2)
                    have e : cmpF (famK .dtm) xa.data.toList xb.data.toList = agM M N := by show agM (mtG (rdDT xa.data.toList)) (mtG (rdDT xb.data.toList)) = _; rw [hM, hN]; rfl
                    rw [e]
                    exact cp_m6 xa ta la xb tb lb w _ _ _ _ hk1 hk2 hc1 hc2 _ _ _ _ _ _ _ _ _ _ n1 n2 (RkDT xa.data.toList) (RkDT xb.data.toList) _ _ (re_ok (fun w => read_dt w xa s1) i1) (re_ok (fun w => read_dt w xb s2) i2) fun m n hm hn w => by
                      obtain ⟨a1, a2⟩ := dt_rel hm hM
                      obtain ⟨b1, b2⟩ := dt_rel hn hN
                      rw [← moE_agM a2 b2]
                      exact moments_calls m n 6 w a1 b1
                  | dat =>
                    obtain ⟨M, hM⟩ := Option.isSome_iff_exists.1 (show (rdDay xa.data.toList).isSome = true from i1)
                    obtain ⟨N, hN⟩ := Option.isSome_iff_exists.1 (show (rdDay xb.data.toList).isSome = true from i2)
                    have e : cmpF (famK .dat) xa.data.toList xb.data.toList = agM M N := by show agM (mtG (rdDay xa.data.toList)) (mtG (rdDay xb.data.toList)) = _; rw [hM, hN]; rfl
                    rw [e]
                    exact cp_m7 xa ta la xb tb lb w _ _ _ _ hk1 hk2 hc1 hc2 _ _ _ _ _ _ _ _ _ _ n1 n2 (RkDay xa.data.toList) (RkDay xb.data.toList) _ _ (re_ok (fun w => read_day w xa s1) i1) (re_ok (fun w => read_day w xb s2) i2) fun m n hm hn w => by
                      obtain ⟨a1, a2⟩ := day_rel hm hM
                      obtain ⟨b1, b2⟩ := day_rel hn hN
                      rw [← moE_agM a2 b2]
                      exact moments_calls m n 7 w a1 b1
                  | tim =>
                    obtain ⟨M, hM⟩ := Option.isSome_iff_exists.1 (show (rdClk xa.data.toList).isSome = true from i1)
                    obtain ⟨N, hN⟩ := Option.isSome_iff_exists.1 (show (rdClk xb.data.toList).isSome = true from i2)
                    have e : cmpF (famK .tim) xa.data.toList xb.data.toList = agM M N := by show agM (mtG (rdClk xa.data.toList)) (mtG (rdClk xb.data.toList)) = _; rw [hM, hN]; rfl
                    rw [e]
                    exact cp_m8 xa ta la xb tb lb w _ _ _ _ hk1 hk2 hc1 hc2 _ _ _ _ _ _ _ _ _ _ n1 n2 (RkClk xa.data.toList) (RkClk xb.data.toList) _ _ (re_ok (fun w => read_clk w xa s1) i1) (re_ok (fun w => read_clk w xb s2) i2) fun m n hm hn w => by
                      obtain ⟨a1, a2⟩ := clk_rel hm hM
                      obtain ⟨b1, b2⟩ := clk_rel hn hN
                      rw [← moE_agM a2 b2]
                      exact moments_calls m n 8 w a1 b1
                · rw [if_neg (fun h => hkl ((lk_fam f1).1 h.2.2))]
                  exact cp_diff xa ta la xb tb lb w _ _ _ _ _ _ hk1 hk2 (lk_pos k) (lk_pos l) hc1 hc2 _ _ _ _ _ _ _ _ _ _ _ n1 n2 (lk_ne f1 hkl)
            · rw [no2 (by unfold vdOk; rw [decide_eq_false c2]; simp)]
              rw [c1] at hc1
              exact cp_r5 ka kb xa ta la xb tb lb w _ _ _ _ _ _ hk1 hk2 a3 b3 (lk_pos k) (lk_pos l) _ hc1 hc2 c2
          · rw [no1 (by unfold vdOk; rw [decide_eq_false c1]; simp)]
            exact cp_r4 ka kb xa ta la xb tb lb w _ _ _ _ _ _ hk1 hk2 a3 b3 (lk_pos k) (lk_pos l) _ hc1 c1
    · rw [no2 (by unfold vdOk; rw [decide_eq_false b3]; simp)]
      exact cp_r1 ka kb xa ta la xb tb lb w _ _ _ _ _ _ hk1 hk2 a3 b3
  · rw [no1 (by unfold vdOk; rw [decide_eq_false a3]; simp)]
    exact cp_r0 ka kb xa ta la xb tb lb w _ _ _ _ _ _ hk1 hk2 a3
set_option maxHeartbeats 1000000 in
theorem requal_calls (a b : Tm) (w : World) (ha : a.tx.size ≤ 9223372036854775807) (hb : b.tx.size ≤ 9223372036854775807) :
    Calls Tryz.prog 20 #[a.val, b.val] w fun e w' => e = .returned (.bool (eqE a b)) ∧ Below w.heap.size w w' := by
  have hc := fun w => rcmp_calls a b w ha hb
  have heq := fun w => tm_eql a b w
  have hgd := tm_guarded
  unfold eqE
  obtain ⟨c, hcc⟩ : ∃ c, c = (cmpE a b).1 := ⟨_, rfl⟩
  obtain ⟨k, hk⟩ : ∃ c, c = (cmpE a b).2 := ⟨_, rfl⟩
  obtain ⟨q, hq⟩ : ∃ c, c = tmEq a b := ⟨_, rfl⟩
  rw [← hcc, ← hk] at hc ⊢
  rw [← hq] at heq ⊢
  clear hcc hk hq ha hb
  obtain ⟨ka, xa, ta, la⟩ := a
  obtain ⟨kb, xb, tb, lb⟩ := b
  unfold Tm.val at hc heq
  unfold Tm.val
  dsimp only at hc heq ⊢
  have HC := Lib.hid hc
  clear hc
  obtain ⟨d, hd⟩ : ∃ d, d = decide (c = 0) := ⟨_, rfl⟩
  have hd0 : (c == (0 : Int)) = d := by rw [hd]; rfl
  rw [← hd]
  clear hd
  go_enter Tryz.func20, Tryz.ntmps20
  go_upto_region 2 with (go_at_call 18; (with_reducible refine (HC.out _).mono ?_); rintro e w1 ⟨rfl, hb1⟩)
  obtain ⟨ra, rb, hab⟩ := box2 w (.cells #[.int .i64 ka, .string xa, .string ta, .string la] 33) (.cells #[.int .i64 kb, .string xb, .string tb, .string lb] 33)
  have sab : ((w.alloc (.cells #[.int .i64 ka, .string xa, .string ta, .string la] 33)).alloc (.cells #[.int .i64 kb, .string xb, .string tb, .string lb] 33)).heap.size = w.heap.size + 2 := by simp
  generalize World.alloc (World.alloc w _) _ = w0 at ra rb hab hb1 sab ⊢
  have ra1 := (hb1.block _ (by omega)).trans ra
  have rb1 := (hb1.block _ (by omega)).trans rb
  have hbz := hab.trans (hb1.mono hab.size)
  have x0 := row_cell ra1 0
  have x1 := row_cell ra1 1
  have x2 := row_cell ra1 2
  have x3 := row_cell ra1 3
  have y0 := row_cell rb1 0
  have y1 := row_cell rb1 1
  have y2 := row_cell rb1 2
  have y3 := row_cell rb1 3
  simp at x0 x1 x2 x3 y0 y1 y2 y3
  clear ra rb hab hb1 sab ra1 rb1
  cases q <;> cases k <;> cases d
  all_goals go_wp2_with fail
  all_goals go_ret
  all_goals exact ⟨rfl, hbz⟩
end Go.Proofs.YtlhcejbimlilaaaGreatDoor
/- ValueOrders: the walk. -/
namespace Go.Proofs.YtlhcejbimlilaaaGreatDoor
open Go.RowKit Go.Tk
set_option maxRecDepth 100000 in
set_option maxHeartbeats 4000000 in
theorem orders_in (w : World) (a b : Tm) (ha : a.tx.size ≤ 9223372036854775807) (hb : b.tx.size ≤ 9223372036854775807) (hpw : Pow w) :
    Calls Tryz.prog 5 #[a.val, b.val] w fun e w' => e = .returned (.bool true) ∧ Below w.heap.size w w' := by
  have h1 := fun w => cmp_calls a b w ha hb
  have h2 := fun w => cmp_calls b a w hb ha
  have h3 := fun w => rcmp_calls a b w ha hb
  have h4 := fun w => rcmp_calls b a w hb ha
  have h5 := fun w => equal_calls a b w ha hb
  have h6 := fun w => requal_calls a b w ha hb
  obtain ⟨c, hc⟩ : ∃ c, c = (cmpE a b).1 := ⟨_, rfl⟩
  obtain ⟨k, hk⟩ : ∃ c, c = (cmpE a b).2 := ⟨_, rfl⟩
  obtain ⟨d, hd⟩ : ∃ c, c = (cmpE b a).1 := ⟨_, rfl⟩
  obtain ⟨m, hm⟩ : ∃ c, c = (cmpE b a).2 := ⟨_, rfl⟩
  obtain ⟨q, hq⟩ : ∃ c, c = eqE a b := ⟨_, rfl⟩
  rw [← hc, ← hk] at h1 h3
  rw [← hd, ← hm] at h2 h4
  rw [← hq] at h5 h6
  clear hc hk hd hm hq ha hb hpw
  obtain ⟨ka, xa, ta, la⟩ := a
  obtain ⟨kb, xb, tb, lb⟩ := b
  unfold Tm.val at h1 h2 h3 h4 h5 h6 ⊢
  dsimp only at h1 h2 h3 h4 h5 h6 ⊢
  have H1 := Lib.hid h1
  have H2 := Lib.hid h2
  have H3 := Lib.hid h3
  have H4 := Lib.hid h4
  have H5 := Lib.hid h5
  have H6 := Lib.hid h6
  clear h1 h2 h3 h4 h5 h6
  go_enter Tryz.func5, Tryz.ntmps5
  go_upto_region 1 with fail
  obtain ⟨ra, rb, hb⟩ := box2 w (.cells #[.int .i64 ka, .string xa, .string ta, .string la] 33) (.cells #[.int .i64 kb, .string xb, .string tb, .string lb] 33)
  generalize World.alloc (World.alloc w _) _ = w0 at ra rb hb ⊢
  have RA := Lib.hid ra
  have RB := Lib.hid rb
  have B := Lib.hid hb
  clear ra rb hb
  have x0 := row_cell RA.out 0
  have y0 := row_cell RB.out 0
  have x1 := row_cell RA.out 1
  have y1 := row_cell RB.out 1
  have x2 := row_cell RA.out 2
  have y2 := row_cell RB.out 2
  have x3 := row_cell RA.out 3
  have y3 := row_cell RB.out 3
  simp at x0 x1 x2 x3 y0 y1 y2 y3
  go_upto_region 2 with (go_at_call 17; (with_reducible refine (H1.out _).mono ?_); rintro e wx ⟨rfl, hbx⟩)
  clear x0 x1 x2 x3 y0 y1 y2 y3
  replace RA := row_mv RA hbx
  replace RB := row_mv RB hbx
  replace B := bel_mv B hbx
  clear hbx
  have x0 := row_cell RA.out 0
  have y0 := row_cell RB.out 0
  have x1 := row_cell RA.out 1
  have y1 := row_cell RB.out 1
  have x2 := row_cell RA.out 2
  have y2 := row_cell RB.out 2
  have x3 := row_cell RA.out 3
  have y3 := row_cell RB.out 3
  simp at x0 x1 x2 x3 y0 y1 y2 y3
  go_upto_region 3 with (go_at_call 17; (with_reducible refine (H2.out _).mono ?_); rintro e wx ⟨rfl, hbx⟩)
  clear x0 x1 x2 x3 y0 y1 y2 y3
  replace RA := row_mv RA hbx
  replace RB := row_mv RB hbx
  replace B := bel_mv B hbx
  clear hbx
  have x0 := row_cell RA.out 0
  have y0 := row_cell RB.out 0
  have x1 := row_cell RA.out 1
  have y1 := row_cell RB.out 1
  have x2 := row_cell RA.out 2
  have y2 := row_cell RB.out 2
  have x3 := row_cell RA.out 3
  have y3 := row_cell RB.out 3
  simp at x0 x1 x2 x3 y0 y1 y2 y3
  go_upto_region 4 with (go_at_call 18; (with_reducible refine (H3.out _).mono ?_); rintro e wx ⟨rfl, hbx⟩)
  clear x0 x1 x2 x3 y0 y1 y2 y3
  replace RA := row_mv RA hbx
  replace RB := row_mv RB hbx
  replace B := bel_mv B hbx
  clear hbx
  have x0 := row_cell RA.out 0
  have y0 := row_cell RB.out 0
  have x1 := row_cell RA.out 1
  have y1 := row_cell RB.out 1
  have x2 := row_cell RA.out 2
  have y2 := row_cell RB.out 2
  have x3 := row_cell RA.out 3
  have y3 := row_cell RB.out 3
  simp at x0 x1 x2 x3 y0 y1 y2 y3
  go_upto_region 5 with (go_at_call 18; (with_reducible refine (H4.out _).mono ?_); rintro e wx ⟨rfl, hbx⟩)
  clear x0 x1 x2 x3 y0 y1 y2 y3
  replace RA := row_mv RA hbx
  replace RB := row_mv RB hbx
  replace B := bel_mv B hbx
  clear hbx
  have qa := Lw.row RA.out
  have qb := Lw.row RB.out
  have x0 := fun x => (row_cell (qa x) 0)
  have x1 := fun x => (row_cell (qa x) 1)
  have x2 := fun x => (row_cell (qa x) 2)
  have x3 := fun x => (row_cell (qa x) 3)
  have y0 := fun x => (row_cell (qb x) 0)
  have y1 := fun x => (row_cell (qb x) 1)
  have y2 := fun x => (row_cell (qb x) 2)
  have y3 := fun x => (row_cell (qb x) 3)
  simp at x0 x1 x2 x3 y0 y1 y2 y3
  clear qa qb
  refine wp_region_lw (by kernel_rfl) (by kernel_rfl) ?_
  repeat (go_big_quiet_step (first | exact rfl | (go_at_call 19; with_reducible exact lw_call (H5.out _)) | (go_at_call 20; with_reducible exact lw_call (H6.out _))))
  refine wpQuiet_nil ?_
  rintro ⟨w9, hb9⟩
  dsimp only
  clear x0 x1 x2 x3 y0 y1 y2 y3
  go_wp2_with fail
  go_ret
  exact ⟨rfl, B.out.trans (hb9.mono B.out.size)⟩
end Go.Proofs.YtlhcejbimlilaaaGreatDoor
