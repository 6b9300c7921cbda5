/- VdM VdH, laid as one. -/
import Derived.Test.YtlhcejbimlilaaaGreatDoorVaC
import Derived.Test.YtlhcejbimlilaaaGreatDoorVaD
import Derived.Test.YtlhcejbimlilaaaGreatDoorVaF
import Derived.Test.YtlhcejbimlilaaaGreatDoorVaV
set_option linter.unusedVariables false
set_option linter.unusedSimpArgs false
/- The document's two, between, leap, days. -/
namespace Go.Tk
open Go Go.RowKit
def tw8 : List UInt8 → Int
  | a :: b :: _ => if dgB [a, b] = true then 10 * ((a.toNat : Int) - 48) + ((b.toNat : Int) - 48) else -1
  | _ => -1
def btw (l : List UInt8) (lo hi : Int) : Int := if tw8 l < lo ∨ hi < tw8 l then -1 else tw8 l
theorem tw8_rng (l : List UInt8) : -1 ≤ tw8 l ∧ tw8 l ≤ 99 := by
  unfold tw8
  split
  · rename_i a b t
    split
    · rename_i h
      have h1 := List.all_eq_true.1 h a (by simp)
      have h2 := List.all_eq_true.1 h b (by simp)
      simp only [Bool.and_eq_true, decide_eq_true_eq] at h1 h2
      have e1 := UInt8.le_iff_toNat_le.1 h1.1
      have e2 := UInt8.le_iff_toNat_le.1 h1.2
      have e3 := UInt8.le_iff_toNat_le.1 h2.1
      have e4 := UInt8.le_iff_toNat_le.1 h2.2
      have k1 : (48 : UInt8).toNat = 48 := rfl
      have k2 : (57 : UInt8).toNat = 57 := rfl
      omega
    · omega
  · omega
end Go.Tk
namespace Go.Proofs.YtlhcejbimlilaaaGreatDoor
open Go.RowKit Go.Tk
theorem rtwo_calls (s : ByteArray) (w : World) (hs : s.size ≤ 4000000000) : Calls Tryz.prog 158 #[.string s] w fun e w' => e = .returned (.int .i64 (tw8 s.data.toList)) ∧ Below w.heap.size w w' := by
  by_cases h2 : 1 < s.size
  · have hcs := ba_two s h2
    have h0 : 0 < s.size := by omega
    obtain ⟨a, ha⟩ : ∃ a, s[0] = a := ⟨_, rfl⟩
    obtain ⟨b, hb⟩ : ∃ b, s[1] = b := ⟨_, rfl⟩
    rw [ha, hb] at hcs
    obtain ⟨x, hx⟩ : ∃ x : Int, (((s[0]).toNat : Nat) : Int) = x := ⟨_, rfl⟩
    obtain ⟨y, hy⟩ : ∃ y : Int, (((s[1]).toNat : Nat) : Int) = y := ⟨_, rfl⟩
    have dx := fun w => rdigit_calls x w
    have dy := fun w => rdigit_calls y w
    have hT : tw8 s.data.toList = if ((decide (48 ≤ x) && decide (x ≤ 57)) && (decide (48 ≤ y) && decide (y ≤ 57))) = true then 10 * (x - 48) + (y - 48) else -1 := by
      have e : dgB [a, b] = ((decide (48 ≤ x) && decide (x ≤ 57)) && (decide (48 ≤ y) && decide (y ≤ 57))) := by
        have nx : (a.toNat : Int) = x := by rw [← ha]; exact hx
        have ny : (b.toNat : Int) = y := by rw [← hb]; exact hy
        rw [dgB_cons, dgB_cons, show dgB [] = true from rfl, Bool.and_true]
        have c1 : decide (48 ≤ a.toNat) = decide (48 ≤ x) := by rw [decide_eq_decide]; omega
        have c2 : decide (a.toNat ≤ 57) = decide (x ≤ 57) := by rw [decide_eq_decide]; omega
        have c3 : decide (48 ≤ b.toNat) = decide (48 ≤ y) := by rw [decide_eq_decide]; omega
        have c4 : decide (b.toNat ≤ 57) = decide (y ≤ 57) := by rw [decide_eq_decide]; omega
        rw [c1, c2, c3, c4]
      rw [hcs]
      show (if dgB [a, b] = true then 10 * ((a.toNat : Int) - 48) + ((b.toNat : Int) - 48) else -1) = _
      rw [e, ← ha, ← hb, hx, hy]
    rw [hT]
    by_cases cx : 48 ≤ x ∧ x ≤ 57
    · rw [decide_eq_true cx.1, decide_eq_true cx.2] at dx ⊢
      replace dx : ∀ w, Calls Tryz.prog 145 #[.int .u8 x] w fun e w' => e = .returned (.bool true) ∧ w = w' := dx
      have DX := Lib.hid dx
      by_cases cy : 48 ≤ y ∧ y ≤ 57
      · rw [decide_eq_true cy.1, decide_eq_true cy.2] at dy ⊢
        rw [if_pos (by rfl)]
        replace dy : ∀ w, Calls Tryz.prog 145 #[.int .u8 y] w fun e w' => e = .returned (.bool true) ∧ w = w' := dy
        have DY := Lib.hid dy
        obtain ⟨cx1, cx2⟩ := cx
        obtain ⟨cy1, cy2⟩ := cy
        have k1 : IntKind.u8.wrap (x - 48) = x - 48 := by rw [IntKind.wrap_u8]; omega
        have k2 : IntKind.u8.wrap (y - 48) = y - 48 := by rw [IntKind.wrap_u8]; omega
        have k3 : IntKind.i64.wrap (x - 48) = x - 48 := by rw [IntKind.wrap_i64]; omega
        have k4 : IntKind.i64.wrap (y - 48) = y - 48 := by rw [IntKind.wrap_i64]; omega
        have k5 : IntKind.i64.wrap (10 * (x - 48)) = 10 * (x - 48) := by rw [IntKind.wrap_i64]; omega
        have k6 : IntKind.i64.wrap (10 * (x - 48) + (y - 48)) = 10 * (x - 48) + (y - 48) := by rw [IntKind.wrap_i64]; omega
        clear hT hcs ha hb dx dy
        go_enter Tryz.func158, Tryz.ntmps158
        go_upto_region 3 with (go_at_call 145; (first | ((with_reducible refine (DX.out _).mono ?_); rintro e w' ⟨rfl, rfl⟩) | ((with_reducible refine (DY.out _).mono ?_); rintro e w' ⟨rfl, rfl⟩)))
        go_quiet (fail)
        go_wp2_with fail
        go_ret
        exact ⟨rfl, by repeat (first | with_reducible exact Below.refl _ _ | with_reducible refine below_drewN ?_ _)⟩
      · have cyb : (decide (48 ≤ y) && decide (y ≤ 57)) = false := by rw [← Bool.not_eq_true, Bool.and_eq_true, decide_eq_true_eq, decide_eq_true_eq]; exact cy
        rw [cyb] at dy ⊢
        have DY := Lib.hid dy
        rw [if_neg (by simp)]
        clear hT hcs ha hb dx dy cyb cx cy
        go_enter Tryz.func158, Tryz.ntmps158
        go_wp2_with (go_at_call 145; (first | ((with_reducible refine (DX.out _).mono ?_); rintro e w' ⟨rfl, rfl⟩) | ((with_reducible refine (DY.out _).mono ?_); rintro e w' ⟨rfl, rfl⟩)))
        go_ret
        exact ⟨rfl, Below.refl _ _⟩
    · have cxb : (decide (48 ≤ x) && decide (x ≤ 57)) = false := by rw [← Bool.not_eq_true, Bool.and_eq_true, decide_eq_true_eq, decide_eq_true_eq]; exact cx
      rw [cxb] at dx ⊢
      have DX := Lib.hid dx
      rw [Bool.false_and, if_neg (by simp)]
      clear hT hcs ha hb dx dy cxb cx
      go_enter Tryz.func158, Tryz.ntmps158
      go_wp2_with (go_at_call 145; (with_reducible refine (DX.out _).mono ?_); rintro e w' ⟨rfl, rfl⟩)
      go_ret
      exact ⟨rfl, Below.refl _ _⟩
  · have hT : tw8 s.data.toList = -1 := by
      have hl : s.data.toList.length = s.size := (Lib.size_eq s).symm
      cases hd : s.data.toList with
      | nil => rfl
      | cons a t =>
        cases t with
        | nil => rfl
        | cons b t => rw [hd] at hl; simp only [List.length_cons] at hl; omega
    rw [hT]
    have hz : (s.size : Int) < 2 := by omega
    clear hT h2
    go_enter Tryz.func158, Tryz.ntmps158
    go_wp2_with fail
    go_ret
    exact ⟨rfl, Below.refl _ _⟩
theorem rbetween_calls (s : ByteArray) (lo hi : Int) (w : World) (hs : s.size ≤ 4000000000) : Calls Tryz.prog 130 #[.string s, .int .i64 lo, .int .i64 hi] w fun e w' => e = .returned (.int .i64 (btw s.data.toList lo hi)) ∧ Below w.heap.size w w' := by
  have ht := fun w => rtwo_calls s w hs
  unfold btw
  obtain ⟨n, hn⟩ : ∃ n, n = tw8 s.data.toList := ⟨_, rfl⟩
  rw [← hn] at ht ⊢
  have HT := Lib.hid ht
  clear ht hn
  by_cases h1 : n < lo
  · rw [if_pos (.inl h1)]
    go_enter Tryz.func130, Tryz.ntmps130
    go_wp2_with (go_at_call 158; (with_reducible refine (HT.out _).mono ?_); rintro e w' ⟨rfl, hb1⟩)
    go_ret
    exact ⟨rfl, hb1⟩
  · by_cases h2 : hi < n
    · rw [if_pos (.inr h2)]
      have h3 : lo ≤ n := by omega
      clear h1
      go_enter Tryz.func130, Tryz.ntmps130
      go_wp2_with (go_at_call 158; (with_reducible refine (HT.out _).mono ?_); rintro e w' ⟨rfl, hb1⟩)
      go_ret
      exact ⟨rfl, hb1⟩
    · rw [if_neg (by rintro (h | h); exact h1 h; exact h2 h)]
      have h3 : lo ≤ n := by omega
      have h4 : n ≤ hi := by omega
      clear h1 h2
      go_enter Tryz.func130, Tryz.ntmps130
      go_wp2_with (go_at_call 158; (with_reducible refine (HT.out _).mono ?_); rintro e w' ⟨rfl, hb1⟩)
      go_ret
      exact ⟨rfl, hb1⟩
theorem rleap_calls (y : Int) (w : World) (h0 : -4000000000000000000 ≤ y) (h1 : y ≤ 4000000000000000000) :
    Calls Tryz.prog 159 #[.int .i64 y] w fun e w' => e = .returned (.bool (lpB y)) ∧ w = w' := by
  by_cases a4 : y % 4 = 0
  · have t4 := tmod_yes a4
    by_cases a1 : y % 100 = 0
    · have t1 := tmod_yes' a1
      by_cases a0 : y % 400 = 0
      · have t0 := tmod_yes a0
        have e : lpB y = true := by unfold lpB; simp [a4, a1, a0]
        rw [e]
        clear e a4 a1 a0
        go_enter Tryz.func159, Tryz.ntmps159
        go_wp2_with fail
        go_ret
        exact ⟨rfl, rfl⟩
      · have t0 := tmod_no a0
        have e : lpB y = false := by unfold lpB; simp [a4, a1, a0]
        rw [e]
        clear e a4 a1 a0
        go_enter Tryz.func159, Tryz.ntmps159
        go_wp2_with fail
        go_ret
        exact ⟨rfl, rfl⟩
    · have t1 := tmod_no' a1
      have e : lpB y = true := by unfold lpB; simp [a4, a1]
      rw [e]
      clear e a4 a1
      go_enter Tryz.func159, Tryz.ntmps159
      go_wp2_with fail
      go_ret
      exact ⟨rfl, rfl⟩
  · have t4 := tmod_no a4
    have e : lpB y = false := by unfold lpB; simp [a4]
    rw [e]
    clear e a4
    go_enter Tryz.func159, Tryz.ntmps159
    go_wp2_with fail
    go_ret
    exact ⟨rfl, rfl⟩
set_option maxHeartbeats 2000000 in
theorem rdays_calls (y m : Int) (w : World) (h0 : -4000000000000000000 ≤ y) (h1 : y ≤ 4000000000000000000) (m1 : 1 ≤ m) (m2 : m ≤ 12) :
    Calls Tryz.prog 131 #[.int .i64 y, .int .i64 m] w fun e w' => e = .returned (.int .i64 (mdP y m)) ∧ Below w.heap.size w w' := by
  have hl := fun w => rleap_calls y w h0 h1
  have hm : m = 1 ∨ m = 2 ∨ m = 3 ∨ m = 4 ∨ m = 5 ∨ m = 6 ∨ m = 7 ∨ m = 8 ∨ m = 9 ∨ m = 10 ∨ m = 11 ∨ m = 12 := by omega
  have hmd : mdP y m = if m = 2 then (if lpB y = true then 29 else 28) else if m = 4 ∨ m = 6 ∨ m = 9 ∨ m = 11 then 30 else 31 := rfl
  rw [hmd]
  obtain ⟨b, hb⟩ : ∃ b, b = lpB y := ⟨_, rfl⟩
  rw [← hb] at hl ⊢
  have HL := Lib.hid hl
  clear hmd hl hb m1 m2
  rcases hm with rfl | rfl | rfl | rfl | rfl | rfl | rfl | rfl | rfl | rfl | rfl | rfl
  case inr.inl =>
    cases b with
    | true =>
      go_enter Tryz.func131, Tryz.ntmps131
      go_wp2_with (go_at_call 159; (with_reducible refine (HL.out _).mono ?_); rintro e w' ⟨rfl, rfl⟩)
      go_ret
      exact ⟨rfl, (Below.refl _ _).alloc (Nat.le_refl _) _⟩
    | false =>
      go_enter Tryz.func131, Tryz.ntmps131
      go_wp2_with (go_at_call 159; (with_reducible refine (HL.out _).mono ?_); rintro e w' ⟨rfl, rfl⟩)
      go_ret
      exact ⟨rfl, (Below.refl _ _).alloc (Nat.le_refl _) _⟩
  all_goals
    clear HL
    go_enter Tryz.func131, Tryz.ntmps131
    go_wp2_with fail
    go_ret
    exact ⟨rfl, (Below.refl _ _).alloc (Nat.le_refl _) _⟩
end Go.Proofs.YtlhcejbimlilaaaGreatDoor
/- The document's order is the program's: plain; its order of two numbers. -/
namespace Go.Proofs.YtlhcejbimlilaaaGreatDoor
open Go.RowKit Go.Tk
def ngN (n : Nm) : Bool := n.below || decide (n.inf < 0)
def ifN (n : Nm) : Bool := decide (n.inf ≠ 0)
def orN (n m : Nm) : Int := orV (nbEq n.nan (ifN n) (ngN n) ⟨n.dg.toArray⟩ n.pw m.nan (ifN m) (ngN m) ⟨m.dg.toArray⟩ m.pw) (ifN n) (ngN n) n.dg n.pw (ifN m) (ngN m) m.dg m.pw
theorem sg_nf {n : Nm} (h : NF n) : sgV (ngN n) (ifN n) n.dg = rkN n ∧ ifN n = false ∧ ngN n = n.below := by
  have e1 : ifN n = false := by unfold ifN; rw [h.inf]; rfl
  have e2 : ngN n = n.below := by unfold ngN; rw [h.inf]; simp
  refine ⟨?_, e1, e2⟩
  rw [e1, e2, rk_nf h]
  by_cases hd : n.dg = []
  · obtain rfl := h.z hd
    rfl
  · rw [if_neg hd]
    unfold sgV
    cases n.below with
    | true => rfl
    | false =>
      cases hc : n.dg with
      | nil => exact absurd hc hd
      | cons c t => rfl
theorem rk_bd {n : Nm} (h : NF n) : rkN n = -1 ∨ rkN n = 0 ∨ rkN n = 1 := by
  rw [rk_nf h]
  split
  · exact .inr (.inl rfl)
  split
  · exact .inl rfl
  · exact .inr (.inr rfl)
theorem nb_true {n m : Nm} (a : NF n) (b : NF m) (h : nbEq n.nan (ifN n) (ngN n) ⟨n.dg.toArray⟩ n.pw m.nan (ifN m) (ngN m) ⟨m.dg.toArray⟩ m.pw = true) : n = m := by
  unfold nbEq at h
  rw [(sg_nf a).2.2, (sg_nf b).2.2] at h
  simp only [Bool.and_eq_true, beq_iff_eq] at h
  obtain ⟨_, _, h3, h4, h5⟩ := h
  rw [← nf_eta a, ← nf_eta b, h3, h5, show n.dg = m.dg from h4]
theorem nb_self (n : Nm) : nbEq n.nan (ifN n) (ngN n) ⟨n.dg.toArray⟩ n.pw n.nan (ifN n) (ngN n) ⟨n.dg.toArray⟩ n.pw = true := by unfold nbEq; simp
theorem or_nf {n m : Nm} (a : NF n) (b : NF m) : orN n m = (agN n m).1 := by
  by_cases e : n = m
  · subst e
    unfold orN orV
    rw [nb_self, if_pos rfl, ag_self a.nan]
  · have hq : nbEq n.nan (ifN n) (ngN n) ⟨n.dg.toArray⟩ n.pw m.nan (ifN m) (ngN m) ⟨m.dg.toArray⟩ m.pw = false := by
      cases hb : nbEq n.nan (ifN n) (ngN n) ⟨n.dg.toArray⟩ n.pw m.nan (ifN m) (ngN m) ⟨m.dg.toArray⟩ m.pw with
      | false => rfl
      | true => exact absurd (nb_true a b hb) e
    obtain ⟨a1, a2, a3⟩ := sg_nf a
    obtain ⟨b1, b2, b3⟩ := sg_nf b
    unfold orN orV
    rw [hq, if_neg (by simp), a1, b1]
    unfold agN
    rw [a.nan, b.nan, if_neg (by simp : ¬ (false = true ∨ false = true))]
    by_cases hr : rkN n ≠ rkN m
    · rw [if_pos hr, if_pos (.inl hr)]
    · rw [if_neg hr, a2, b2, if_neg (by simp), a3]
      have hne : ¬ (rkN n ≠ rkN m ∨ rkN n ≠ 1 ∧ rkN n ≠ -1) := by
        rintro (h | h)
        · exact hr h
        · have h0 : rkN n = 0 := by have := rk_bd a; omega
          have h1 : rkN m = 0 := by omega
          refine e ?_
          have d1 : n.dg = [] := by
            by_cases hd : n.dg = []
            · exact hd
            · rw [rk_nf a, if_neg hd] at h0; split at h0 <;> omega
          have d2 : m.dg = [] := by
            by_cases hd : m.dg = []
            · exact hd
            · rw [rk_nf b, if_neg hd] at h1; split at h1 <;> omega
          rw [a.z d1, b.z d2]
      rw [if_neg hne]
      have hk : rkN n = if n.below = true then -1 else 1 := by
        rw [rk_nf a]
        by_cases hd : n.dg = []
        · exfalso; apply hne; right; rw [rk_nf a, if_pos hd]; omega
        · rw [if_neg hd]
      dsimp only
      rw [hk]
      generalize (if cmZ n.pw m.pw = 0 then cmB n.dg m.dg else cmZ n.pw m.pw) = x
      split <;> omega
theorem or_infL {z : Int} {m : Nm} (hz : z = 1 ∨ z = -1) (b : NF m) : orN (nmInf z) m = (agN (nmInf z) m).1 := by
  obtain ⟨b1, b2, b3⟩ := sg_nf b
  have hr := rk_bd b
  have hq : nbEq (nmInf z).nan (ifN (nmInf z)) (ngN (nmInf z)) ⟨(nmInf z).dg.toArray⟩ (nmInf z).pw m.nan (ifN m) (ngN m) ⟨m.dg.toArray⟩ m.pw = false := by
    unfold nbEq
    rw [b2, show ifN (nmInf z) = true from by rcases hz with rfl | rfl <;> rfl]
    simp
  have hi : ifN (nmInf z) = true := by rcases hz with rfl | rfl <;> rfl
  have hg : ngN (nmInf z) = decide (z < 0) := by rcases hz with rfl | rfl <;> rfl
  have hs : sgV (ngN (nmInf z)) (ifN (nmInf z)) (nmInf z).dg = z := by rcases hz with rfl | rfl <;> rfl
  have hk : rkN (nmInf z) = 2 * z := by rcases hz with rfl | rfl <;> rfl
  have hA : agN (nmInf z) m = (cmZ (2 * z) (rkN m), true) := by
    unfold agN
    rw [b.nan, show (nmInf z).nan = false from rfl, if_neg (by simp : ¬ (false = true ∨ false = true)), hk, if_pos (.inl (by omega))]
  unfold orN orV
  rw [hq, if_neg (by simp), hs, b1, hi, b2, hg, hA]
  unfold cmZ
  rcases hz with rfl | rfl <;> rcases hr with e | e | e <;> rw [e] <;> first | rfl | simp
theorem or_infR {z : Int} {n : Nm} (hz : z = 1 ∨ z = -1) (a : NF n) : orN n (nmInf z) = (agN n (nmInf z)).1 := by
  obtain ⟨b1, b2, b3⟩ := sg_nf a
  have hr := rk_bd a
  have hq : nbEq n.nan (ifN n) (ngN n) ⟨n.dg.toArray⟩ n.pw (nmInf z).nan (ifN (nmInf z)) (ngN (nmInf z)) ⟨(nmInf z).dg.toArray⟩ (nmInf z).pw = false := by
    unfold nbEq
    rw [b2, show ifN (nmInf z) = true from by rcases hz with rfl | rfl <;> rfl]
    simp
  have hi : ifN (nmInf z) = true := by rcases hz with rfl | rfl <;> rfl
  have hg : ngN (nmInf z) = decide (z < 0) := by rcases hz with rfl | rfl <;> rfl
  have hs : sgV (ngN (nmInf z)) (ifN (nmInf z)) (nmInf z).dg = z := by rcases hz with rfl | rfl <;> rfl
  have hk : rkN (nmInf z) = 2 * z := by rcases hz with rfl | rfl <;> rfl
  have hA : agN n (nmInf z) = (cmZ (rkN n) (2 * z), true) := by
    unfold agN
    rw [a.nan, show (nmInf z).nan = false from rfl, if_neg (by simp : ¬ (false = true ∨ false = true)), hk, if_pos (.inl (by omega))]
  unfold orN orV
  rw [hq, if_neg (by simp), hs, b1, hi, b2, hg, hA]
  unfold cmZ
  rcases hz with rfl | rfl <;> rcases hr with e | e | e <;> rw [e] <;> first | rfl | simp
theorem or_ag {n m : Nm} {l k : List UInt8} (hn : dblP l = some n) (hm : dblP k = some m) (h1 : n.nan = false) (h2 : m.nan = false) : orN n m = (agN n m).1 := by
  rcases nf_dbl hn with ⟨rfl, _⟩ | rfl | rfl | a
  · cases h1
  · rcases nf_dbl hm with ⟨rfl, _⟩ | rfl | rfl | b
    · cases h2
    · kernel_rfl
    · kernel_rfl
    · exact or_infL (.inl rfl) b
  · rcases nf_dbl hm with ⟨rfl, _⟩ | rfl | rfl | b
    · cases h2
    · kernel_rfl
    · kernel_rfl
    · exact or_infL (.inr rfl) b
  · rcases nf_dbl hm with ⟨rfl, _⟩ | rfl | rfl | b
    · cases h2
    · exact or_infR (.inl rfl) a
    · exact or_infR (.inr rfl) a
    · exact or_nf a b
/-- Two numbers that were read, held against each other by the document. -/
theorem rorder_nm {n m : Nm} {l k : List UInt8} (hn : dblP l = some n) (hm : dblP k = some m) (h1 : n.nan = false) (h2 : m.nan = false) (w : World) :
    Calls Tryz.prog 40 #[rnV n, rnV m] w fun e w' => e = .returned (.int .i64 (agN n m).1) ∧ Below w.heap.size w w' := by
  have h := rorder_calls n.nan (ifN n) (ngN n) ⟨n.dg.toArray⟩ n.pw m.nan (ifN m) (ngN m) ⟨m.dg.toArray⟩ m.pw w
  rw [← or_ag hn hm h1 h2]
  exact h
end Go.Proofs.YtlhcejbimlilaaaGreatDoor
