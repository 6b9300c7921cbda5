/- The program's Compare whole; Equal; a literal of the laws. -/
import Derived.Test.YtlhcejbimlilaaaGreatDoorVbH
import Derived.Laws.StructEq
set_option linter.unusedVariables false
set_option linter.unusedSimpArgs false
namespace Go.Proofs.YtlhcejbimlilaaaGreatDoor
open Go.RowKit Go.Tk
structure Tm where
  kd : Int
  tx : ByteArray
  ty : ByteArray
  la : ByteArray
def Tm.val (t : Tm) : Value := .agg #[.int .i64 t.kd, .string t.tx, .string t.ty, .string t.la]
def mtG (o : Option Mt) : Mt := o.getD mtZ
/-- Two texts of one family. -/
def cmpF (f : Int) (x y : List UInt8) : Int × Bool :=
  if f = 2 then agN (nuN x) (nuN y)
  else if f = 1 then (cmB (truP x) (truP y), true)
  else if f = 6 then (cmB ((hexP (gtP x)).getD []) ((hexP (gtP y)).getD []), true)
  else if f = 7 then (cmB (b6R x).1 (b6R y).1, true)
  else if f = 3 then agM (mtG (rdDT x)) (mtG (rdDT y))
  else if f = 4 then agM (mtG (rdDay x)) (mtG (rdDay y))
  else if f = 5 then agM (mtG (rdClk x)) (mtG (rdClk y))
  else (cmB x y, true)
def Tm.ok (a : Tm) : Bool := vdOk a.kd a.ty.data.toList a.tx.data.toList
def Tm.fam (a : Tm) : Int := famT a.ty.data.toList
/-- What Compare answers. -/
def cmpE (a b : Tm) : Int × Bool := if a.ok = true ∧ b.ok = true ∧ a.fam = b.fam then cmpF a.fam a.tx.data.toList b.tx.data.toList else (0, false)
theorem fam_cases (k l : Kd) (h : famK k = famK l) : famK k = 2 ∧ famK l = 2 ∨ k = l ∧ famK k ≠ 2 := by
  cases k <;> cases l <;> simp [famK] at *
theorem vdOk_chk {kd : Int} {t x : List UInt8} (h : vdOk kd t x = true) : chkE t x = 0 := by
  unfold vdOk at h
  simp only [Bool.and_eq_true, decide_eq_true_eq] at h
  exact h.2.2
theorem vdOk_none {kd : Int} {t x : List UInt8} (h : kdOf t = none) : vdOk kd t x = false := by unfold vdOk; rw [h]; rfl
theorem mt_calls {F : Nat} {x : ByteArray} {o : Option Mt} {m : Mt} (h : ∀ w, Calls Tryz.prog F #[.string x] w (MtPost o w)) (hm : o = some m) :
    ∀ w, Calls Tryz.prog F #[.string x] w fun e w' => e = .returned (.tuple #[m.val, .bool true]) ∧ Below w.heap.size w w' := fun w => by
  refine (h w).mono fun e w' h => ?_
  obtain ⟨m', he, hmo, hbw⟩ := h
  obtain rfl := hmo m hm
  rw [hm] at he
  exact ⟨he, hbw⟩
theorem cmp_calls (a b : Tm) (w : World) (ha : a.tx.size ≤ 9223372036854775807) (hb : b.tx.size ≤ 9223372036854775807) :
    Calls Tryz.prog 17 #[a.val, b.val] w fun e w' => e = .returned (.tuple #[.int .i64 (cmpE a b).1, .bool (cmpE a b).2]) ∧ Below w.heap.size w w' := by
  obtain ⟨ka, xa, ta, la⟩ := a
  obtain ⟨kb, xb, tb, lb⟩ := b
  dsimp only at ha hb
  unfold Tm.val
  dsimp only
  have hE : cmpE ⟨ka, xa, ta, la⟩ ⟨kb, xb, tb, lb⟩ = if vdOk ka ta.data.toList xa.data.toList = true ∧ vdOk kb tb.data.toList xb.data.toList = true ∧ famT ta.data.toList = famT tb.data.toList then cmpF (famT ta.data.toList) xa.data.toList xb.data.toList else (0, false) := rfl
  rw [hE]
  clear hE
  cases hka : kdOf ta.data.toList with
  | none =>
    rw [vdOk_none hka, if_neg (by simp)]
    have h1 := fun w => valued_none ka xa ta la w hka
    cases hkb : kdOf tb.data.toList with
    | none => exact cmp_nn ka kb xa ta la xb tb lb w h1 (fun w => valued_none kb xb tb lb w hkb)
    | some l => exact cmp_ny _ _ ka kb xa ta la xb tb lb w h1 (fun w => valued_some kb xb tb lb w hb l hkb)
  | some k =>
    have h1 := fun w => valued_some ka xa ta la w ha k hka
    cases hkb : kdOf tb.data.toList with
    | none =>
      rw [vdOk_none hkb, if_neg (by simp)]
      exact cmp_yn _ _ ka kb xa ta la xb tb lb w h1 (fun w => valued_none kb xb tb lb w hkb)
    | some l =>
      have h2 := fun w => valued_some kb xb tb lb w hb l hkb
      have e1 : famT ta.data.toList = famK k := by unfold famT; rw [hka]
      have e2 : famT tb.data.toList = famK l := by unfold famT; rw [hkb]
      rw [e1, e2]
      cases hoa : vdOk ka ta.data.toList xa.data.toList with
      | false =>
        rw [if_neg (by simp)]
        rw [hoa] at h1
        exact cmp_na _ _ _ ka kb xa ta la xb tb lb w h1 h2
      | true =>
      rw [hoa] at h1
      cases hob : vdOk kb tb.data.toList xb.data.toList with
      | false =>
        rw [if_neg (by simp)]
        rw [hob] at h2
        exact cmp_nb _ _ ka kb xa ta la xb tb lb w h1 h2
      | true =>
      rw [hob] at h2
      by_cases hf : famK k = famK l
      · rw [if_pos ⟨rfl, rfl, hf⟩]
        have ca := chkE_zero (vdOk_chk hoa)
        have cb := chkE_zero (vdOk_chk hob)
        have hsa : xa.size ≤ 65536 := by rw [Lib.size_eq]; exact ca.1
        have hsb : xb.size ≤ 65536 := by rw [Lib.size_eq]; exact cb.1
        have ia := ca.2 k hka
        have ib := cb.2 l hkb
        rcases fam_cases k l hf with ⟨f1, f2⟩ | ⟨rfl, f1⟩
        · rw [f1] at h1 ⊢
          rw [f2] at h2
          exact cmp_2 ka kb xa ta la xb tb lb w (by omega) (by omega) h1 h2
        · cases k with
          | str => exact cmp_0 ka kb xa ta la xb tb lb w h1 h2
          | boo => exact cmp_1 ka kb xa ta la xb tb lb w h1 h2
          | dec => exact absurd rfl f1
          | dbl => exact absurd rfl f1
          | int lo hi => exact absurd rfl f1
          | hex => exact cmp_6 ka kb xa ta la xb tb lb w (by omega) (by omega) h1 h2
          | b64 => exact cmp_7 ka kb xa ta la xb tb lb w (by omega) (by omega) h1 h2
          | dtm =>
            obtain ⟨m, hm⟩ := Option.isSome_iff_exists.1 (show (rdDT xa.data.toList).isSome = true from ia)
            obtain ⟨n, hn⟩ := Option.isSome_iff_exists.1 (show (rdDT xb.data.toList).isSome = true from ib)
            have e : cmpF (famK .dtm) xa.data.toList xb.data.toList = agM m n := by show agM (mtG (rdDT xa.data.toList)) (mtG (rdDT xb.data.toList)) = _; rw [hm, hn]; rfl
            rw [e]
            exact cmp_3 ka kb xa ta la xb tb lb w _ _ (fun w => twoMoments_calls 36 (fun _ _ => by kernel_rfl) xa xb m n w (rdDT_bd hm).b (rdDT_bd hn).b (mt_calls (fun w => readDateTime_calls xa w (by omega)) hm) (mt_calls (fun w => readDateTime_calls xb w (by omega)) hn)) h1 h2
          | dat =>
            obtain ⟨m, hm⟩ := Option.isSome_iff_exists.1 (show (rdDay xa.data.toList).isSome = true from ia)
            obtain ⟨n, hn⟩ := Option.isSome_iff_exists.1 (show (rdDay xb.data.toList).isSome = true from ib)
            have e : cmpF (famK .dat) xa.data.toList xb.data.toList = agM m n := by show agM (mtG (rdDay xa.data.toList)) (mtG (rdDay xb.data.toList)) = _; rw [hm, hn]; rfl
            rw [e]
            exact cmp_4 ka kb xa ta la xb tb lb w _ _ (fun w => twoMoments_calls 37 (fun _ _ => by kernel_rfl) xa xb m n w (rdDay_bd hm).b (rdDay_bd hn).b (mt_calls (fun w => readDay_calls xa w (by omega)) hm) (mt_calls (fun w => readDay_calls xb w (by omega)) hn)) h1 h2
          | tim =>
            obtain ⟨m, hm⟩ := Option.isSome_iff_exists.1 (show (rdClk xa.data.toList).isSome = true from ia)
            obtain ⟨n, hn⟩ := Option.isSome_iff_exists.1 (show (rdClk xb.data.toList).isSome = true from ib)
            have e : cmpF (famK .tim) xa.data.toList xb.data.toList = agM m n := by show agM (mtG (rdClk xa.data.toList)) (mtG (rdClk xb.data.toList)) = _; rw [hm, hn]; rfl
            rw [e]
            exact cmp_5 ka kb xa ta la xb tb lb w _ _ (fun w => twoMoments_calls 38 (fun _ _ => by kernel_rfl) xa xb m n w (rdClk_bd hm).b (rdClk_bd hn).b (mt_calls (fun w => readClock_calls xa w (by omega)) hm) (mt_calls (fun w => readClock_calls xb w (by omega)) hn)) h1 h2
      · rw [if_neg (fun h => hf h.2.2)]
        exact cmp_nf _ _ ka kb xa ta la xb tb lb w hf h1 h2
end Go.Proofs.YtlhcejbimlilaaaGreatDoor
