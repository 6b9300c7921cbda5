/- VdC VaW, laid as one. -/
import Derived.Test.YtlhcejbimlilaaaGreatDoorVdB
import Derived.Test.YtlhcejbimlilaaaGreatDoorVaJ
import Derived.Test.YtlhcejbimlilaaaGreatDoorVaC
set_option linter.unusedVariables false
set_option linter.unusedSimpArgs false
/- The document's decimal. -/
namespace Go.Proofs.YtlhcejbimlilaaaGreatDoor
open Go.RowKit Go.Tk
theorem rnV_ex (n : Nm) : ∃ b1 b2 b3 D p, rnV n = .agg #[.bool b1, .bool b2, .bool b3, .string D, .int .i64 p] := ⟨_, _, _, _, _, rfl⟩
def RdD (o : Option Nm) (w : World) (e : Ending) (w' : World) : Prop := e = .returned (.tuple #[rnV (o.getD nmZ), .bool o.isSome]) ∧ Below w.heap.size w w'
theorem rd_of {o : Option Nm} {n : Nm} {b : Bool} {w : World} {e : Ending} {w' : World} (h : e = .returned (.tuple #[rnV n, .bool b]) ∧ Below w.heap.size w w') (h1 : o.getD nmZ = n) (h2 : o.isSome = b) : RdD o w e w' := by
  subst h1; subst h2; exact h
theorem rdecimal_calls (s : ByteArray) (e : Int) (w : World) (hs : s.size ≤ 50000000000) (he0 : -100000000000 ≤ e) (he1 : e ≤ 100000000000) :
    Calls Tryz.prog 70 #[.string s, .int .i64 e] w (RdD (decE s.data.toList e) w) := by
  have hsg := fun w => rsigned_calls s w (by omega)
  obtain ⟨T, hT⟩ : ∃ R : ByteArray, R = ⟨(sgnR s.data.toList).toArray⟩ := ⟨_, rfl⟩
  have hTd : T.data.toList = sgnR s.data.toList := by rw [hT]
  have hTs : T.size ≤ s.size := by rw [Lib.size_eq, hTd, Lib.size_eq]; exact sgR_le _
  have hLs : T.data.toList.length = T.size := (Lib.size_eq T).symm
  rw [← hT] at hsg
  obtain ⟨bl, hbl⟩ : ∃ bl, bl = sgnB s.data.toList := ⟨_, rfl⟩
  rw [← hbl] at hsg
  have hE : decE s.data.toList e = if okP (ctA T.data.toList) (ctB T.data.toList) = true then some (mkN bl (ctA T.data.toList) (ctB T.data.toList) e) else none := by unfold decE; rw [hTd, hbl]
  have hrn := fun w => rrun_calls T w (by omega)
  obtain ⟨s1, s2, s3⟩ := dec_scan T.data.toList
  obtain ⟨A, hA⟩ : ∃ A, A = dgN T.data.toList := ⟨_, rfl⟩
  have hAle := dgN_le8 T.data.toList
  simp only [← hA] at hrn s1 s2 s3 hAle
  rw [hLs] at hAle s2
  by_cases hall : A = T.size
  · obtain ⟨q1, q2, q3⟩ := s2 hall
    rw [hall] at hrn
    have htr := fun w => trimmed_calls bl T (T.size : Nat) e w (by omega) (by omega) (by omega) he0 he1
    obtain ⟨b1, b2, b3, D, p, hV⟩ := rnV_ex (trN bl T.data.toList (T.size : Nat) e)
    rw [hV] at htr
    refine (rd_all T s e w bl b1 b2 b3 D p (by omega) hsg hrn htr).mono fun e' w' h => ?_
    rw [← hV] at h
    rw [q1, q2] at hE
    by_cases h0 : T.size = 0
    · have hn : T.data.toList = [] := List.eq_nil_of_length_eq_zero (by omega)
      have hz : decE s.data.toList e = none := by rw [hE, hn, if_neg (by simp [okP])]
      refine rd_of h ?_ ?_
      · rw [hz, hn]; rfl
      · rw [hz, decide_eq_false (by omega)]; rfl
    · have hn : T.data.toList ≠ [] := fun e => h0 (by rw [← hLs, e]; rfl)
      have hz : decE s.data.toList e = some (mkN bl T.data.toList [] e) := by
        rw [hE, if_pos]
        cases hL : T.data.toList with
        | nil => exact absurd hL hn
        | cons c t =>
          rw [hL] at q3
          unfold okP
          rw [q3]; rfl
      refine rd_of h ?_ ?_
      · rw [hz]
        show mkN bl T.data.toList [] e = _
        rw [mkN_trN, List.append_nil, hLs]
      · rw [hz, decide_eq_true (by omega)]; rfl
  · have hlt : A < T.size := by omega
    obtain ⟨c1, c2, c3⟩ := s3 (by omega)
    rw [ba_get T A hlt] at c1 c2 c3
    obtain ⟨Q, hQ⟩ : ∃ Q, T.extract (A + 1) T.size = Q := ⟨_, rfl⟩
    have hQd : Q.data.toList = T.data.toList.drop (A + 1) := by rw [← hQ, ex_drop]
    have hQs : Q.size = T.size - (A + 1) := by rw [Lib.size_eq, hQd, List.length_drop, hLs]
    have hrq := fun w => rrun_calls Q w (by omega)
    obtain ⟨B, hB⟩ : ∃ B, B = dgN Q.data.toList := ⟨_, rfl⟩
    have hBle := dgN_le8 Q.data.toList
    have hBall := dgN_all8 Q.data.toList
    rw [← hB] at hrq hBle hBall
    rw [← Lib.size_eq] at hBle hBall
    by_cases hc : (((T[A]).toNat : Nat) : Int) = 46
    · have hc46 : T[A] = 46 := UInt8.toNat.inj (by have : (46 : UInt8).toNat = 46 := rfl; omega)
      obtain ⟨q1, q2⟩ := c3 hc46
      rw [q1, q2, ← hQd] at hE
      by_cases hl : (A : Int) + 1 + B = T.size
      · have hBQ : B = Q.size := by omega
        have hdq := hBall.1 hBQ
        by_cases h0 : (A : Int) + B = 0
        · have hz : decE s.data.toList e = none := by
            rw [hE, if_neg]
            have hA0 : A = 0 := by omega
            have hQn : Q.data.toList = [] := List.eq_nil_of_length_eq_zero (by rw [← Lib.size_eq]; omega)
            rw [hA0, hQn]
            simp [okP]
          refine (rd_emp T s e w bl A hlt (by omega) Q hQ B (by omega) hc hl h0 hsg hrn hrq).mono fun e' w' h => ?_
          rw [← rnV_Z] at h
          exact rd_of h (by rw [hz]; rfl) (by rw [hz]; rfl)
        · obtain ⟨P, hP⟩ : ∃ P, T.extract 0 A = P := ⟨_, rfl⟩
          have hPd : P.data.toList = T.data.toList.take A := by rw [← hP, ex_take]
          have hPs : P.size = A := by rw [Lib.size_eq, hPd, List.length_take, hLs]; omega
          obtain ⟨PQ, hPQ⟩ : ∃ PQ, P ++ Q = PQ := ⟨_, rfl⟩
          have hPQd : PQ.data.toList = T.data.toList.take A ++ Q.data.toList := by rw [← hPQ, cat_ba, hPd]
          have hPQs : PQ.size = P.size + Q.size := by rw [← hPQ, ByteArray.size_append]
          have htr := fun w => trimmed_calls bl PQ (A : Nat) e w (by omega) (by omega) (by omega) he0 he1
          obtain ⟨b1, b2, b3, D, p, hV⟩ := rnV_ex (trN bl PQ.data.toList (A : Nat) e)
          rw [hV] at htr
          have hz : decE s.data.toList e = some (trN bl PQ.data.toList (A : Nat) e) := by
            rw [hE, if_pos, mkN_trN, hPQd, ← hPd, ← Lib.size_eq, hPs]
            unfold okP
            rw [s1, hdq]
            have : T.data.toList.take A ++ Q.data.toList ≠ [] := fun e => by
              have := congrArg List.length e
              rw [List.length_append, List.length_take, hLs, ← Lib.size_eq, List.length_nil] at this
              omega
            simpa using this
          refine (rd_ok T s e w bl A hlt (by omega) Q hQ B (by omega) b1 b2 b3 D p hc hl h0 P PQ hP hPQ (by omega) (by omega) hsg hrn hrq htr).mono fun e' w' h => ?_
          rw [← hV] at h
          exact rd_of h (by rw [hz]; rfl) (by rw [hz]; rfl)
      · have hz : decE s.data.toList e = none := by
          have hdq : dgB Q.data.toList = false := by
            cases hd : dgB Q.data.toList with
            | false => rfl
            | true => have := hBall.2 hd; omega
          rw [hE, if_neg]
          unfold okP
          rw [hdq]
          simp
        refine (rd_len T s e w bl A hlt (by omega) Q hQ B (by omega) hc hl hsg hrn hrq).mono fun e' w' h => ?_
        rw [← rnV_Z] at h
        exact rd_of h (by rw [hz]; rfl) (by rw [hz]; rfl)
    · have hz : decE s.data.toList e = none := by
        have := c2 (fun e => hc (by rw [e]; rfl))
        rw [hE, if_neg]
        unfold okP
        rw [this]
        simp
      refine (rd_dot T s e w bl A hlt (by omega) Q hQ B (by omega) hc hsg hrn hrq).mono fun e' w' h => ?_
      rw [← rnV_Z] at h
      exact rd_of h (by rw [hz]; rfl) (by rw [hz]; rfl)
end Go.Proofs.YtlhcejbimlilaaaGreatDoor
/- The program's moments: pad, utc, before. -/
namespace Go.Tk
open Go Go.RowKit
end Go.Tk
namespace Go.Proofs.YtlhcejbimlilaaaGreatDoor
open Go.RowKit Go.Tk
set_option maxHeartbeats 1000000 in
theorem utc_calls (m : Mt) (w : World) (h1 : -100000000000000000 ≤ m.sec ∧ m.sec ≤ 100000000000000000) (h2 : -100000 ≤ m.zone ∧ m.zone ≤ 100000) :
    Calls Tryz.prog 102 #[m.val] w fun e w' => e = .returned (utM m).val ∧ Below w.heap.size w w' := by
  obtain ⟨sec, part, zd, zn, sp⟩ := m
  dsimp only at h1 h2
  obtain ⟨h1a, h1b⟩ := h1
  obtain ⟨h2a, h2b⟩ := h2
  obtain ⟨P, hP⟩ : ∃ P : ByteArray, P = ⟨part.toArray⟩ := ⟨_, rfl⟩
  obtain ⟨S, hS⟩ : ∃ S : ByteArray, S = ⟨sp.toArray⟩ := ⟨_, rfl⟩
  cases zd with
  | false =>
    have hu : (utM ⟨sec, part, false, zn, sp⟩).val = .agg #[.int .i64 (sec - 60 * zn), .string P, .bool false, .int .i64 0, .string S] := by rw [hP, hS]; rfl
    rw [hu]
    unfold Mt.val
    dsimp only
    rw [← hP, ← hS]
    clear hu hP hS
    go_enter Tryz.func102, Tryz.ntmps102
    go_wp2_with fail
    refine bodyPost_ret (v := .agg #[.int .i64 (sec - 60 * zn), .string P, .bool false, .int .i64 0, .string S]) (by simp [results, Tryz.results102, go_sem]) rfl ⟨rfl, ?_⟩
    repeat (first | with_reducible exact Below.refl _ _ | with_reducible refine below_drewN ?_ _ | (with_reducible refine Below.setCell ?_ (by simp) _) | (with_reducible refine Below.alloc ?_ (by simp) _))
  | true =>
    have hu : (utM ⟨sec, part, true, zn, sp⟩).val = .agg #[.int .i64 (sec - 60 * zn), .string P, .bool true, .int .i64 0, .string ⟨#[90]⟩] := by rw [hP]; rfl
    rw [hu]
    unfold Mt.val
    dsimp only
    rw [← hP, ← hS]
    clear hu hP hS
    go_enter Tryz.func102, Tryz.ntmps102
    go_wp2_with fail
    refine bodyPost_ret (v := .agg #[.int .i64 (sec - 60 * zn), .string P, .bool true, .int .i64 0, .string ⟨#[90]⟩]) (by simp [results, Tryz.results102, go_sem]) rfl ⟨rfl, ?_⟩
    repeat (first | with_reducible exact Below.refl _ _ | with_reducible refine below_drewN ?_ _ | (with_reducible refine Below.setCell ?_ (by simp) _) | (with_reducible refine Below.alloc ?_ (by simp) _))
theorem before_calls (a b : Mt) (w : World) :
    Calls Tryz.prog 123 #[a.val, b.val] w fun e w' => e = .returned (.int .i64 (bfM a b)) ∧ Below w.heap.size w w' := by
  obtain ⟨s1, p1, z1, n1, q1⟩ := a
  obtain ⟨s2, p2, z2, n2, q2⟩ := b
  have hc := fun w => compare_calls ⟨p1.toArray⟩ ⟨p2.toArray⟩ w
  have he : bfM ⟨s1, p1, z1, n1, q1⟩ ⟨s2, p2, z2, n2, q2⟩ = if s1 < s2 then -1 else if s2 < s1 then 1 else cmB p1 p2 := rfl
  rw [he]
  unfold Mt.val
  dsimp only at hc ⊢
  obtain ⟨c, hcc⟩ : ∃ c, c = cmB p1 p2 := ⟨_, rfl⟩
  have hc : ∀ w, Calls Tryz.prog 32 #[.string ⟨p1.toArray⟩, .string ⟨p2.toArray⟩] w fun e w' => e = .returned (.int .i64 c) ∧ w = w' := fun w => by rw [hcc]; exact hc w
  rw [← hcc]
  have HC := Lib.hid hc
  clear hc he hcc
  by_cases c1 : s1 < s2
  · rw [if_pos c1]
    go_enter Tryz.func123, Tryz.ntmps123
    go_wp2_with fail
    go_ret
    exact ⟨rfl, ((Below.refl _ _).alloc (Nat.le_refl _) _).alloc (by simp) _⟩
  · rw [if_neg c1]
    by_cases c2 : s2 < s1
    · rw [if_pos c2]
      go_enter Tryz.func123, Tryz.ntmps123
      go_wp2_with fail
      go_ret
      exact ⟨rfl, ((Below.refl _ _).alloc (Nat.le_refl _) _).alloc (by simp) _⟩
    · rw [if_neg c2]
      go_enter Tryz.func123, Tryz.ntmps123
      go_wp2_with (go_at_call 32; (with_reducible refine (HC.out _).mono ?_); rintro e w' ⟨rfl, rfl⟩)
      go_ret
      exact ⟨rfl, ((Below.refl _ _).alloc (Nat.le_refl _) _).alloc (by simp) _⟩
end Go.Proofs.YtlhcejbimlilaaaGreatDoor
