/- VdH VcD, laid as one. -/
import Derived.Test.YtlhcejbimlilaaaGreatDoorVbB
import Derived.Test.YtlhcejbimlilaaaGreatDoorVaI
import Derived.Test.YtlhcejbimlilaaaGreatDoorVaJ
import Derived.Test.YtlhcejbimlilaaaGreatDoorVcB
import Derived.Lib.IndexLaws
import Derived.Lib.TrimByte
set_option linter.unusedVariables false
set_option linter.unusedSimpArgs false
/- The document's order is the program's: plain; its order of two numbers. -/
namespace Go.Proofs.YtlhcejbimlilaaaGreatDoor
open Go.RowKit Go.Tk
def ngN (n : Nm) : Bool := n.below || decide (n.inf < 0)
def ifN (n : Nm) : Bool := decide (n.inf ≠ 0)
def orN (n m : Nm) : Int := orV (nbEq n.nan (ifN n) (ngN n) ⟨n.dg.toArray⟩ n.pw m.nan (ifN m) (ngN m) ⟨m.dg.toArray⟩ m.pw) (ifN n) (ngN n) n.dg n.pw (ifN m) (ngN m) m.dg m.pw
theorem sg_nf {n : Nm} (h : NF n) : sgV (ngN n) (ifN n) n.dg = rkN n ∧ ifN n = false ∧ ngN n = n.below := by
  have e1 : ifN n = false := by unfold ifN; rw [h.inf]; rfl
  have e2 : ngN n = n.below := by unfold ngN; rw [h.inf]; simp
  refine ⟨?_, e1, e2⟩
  rw [e1, e2, rk_nf h]
  by_cases hd : n.dg = []
  · obtain rfl := h.z hd
    rfl
  · rw [if_neg hd]
    unfold sgV
    cases n.below with
    | true => rfl
    | false =>
      cases hc : n.dg with
      | nil => exact absurd hc hd
      | cons c t => rfl
theorem rk_bd {n : Nm} (h : NF n) : rkN n = -1 ∨ rkN n = 0 ∨ rkN n = 1 := by
  rw [rk_nf h]
  split
  · exact .inr (.inl rfl)
  split
  · exact .inl rfl
  · exact .inr (.inr rfl)
theorem nb_true {n m : Nm} (a : NF n) (b : NF m) (h : nbEq n.nan (ifN n) (ngN n) ⟨n.dg.toArray⟩ n.pw m.nan (ifN m) (ngN m) ⟨m.dg.toArray⟩ m.pw = true) : n = m := by
  unfold nbEq at h
  rw [(sg_nf a).2.2, (sg_nf b).2.2] at h
  simp only [Bool.and_eq_true, beq_iff_eq] at h
  obtain ⟨_, _, h3, h4, h5⟩ := h
  rw [← nf_eta a, ← nf_eta b, h3, h5, show n.dg = m.dg from h4]
theorem nb_self (n : Nm) : nbEq n.nan (ifN n) (ngN n) ⟨n.dg.toArray⟩ n.pw n.nan (ifN n) (ngN n) ⟨n.dg.toArray⟩ n.pw = true := by unfold nbEq; simp
theorem or_nf {n m : Nm} (a : NF n) (b : NF m) : orN n m = (agN n m).1 := by
  by_cases e : n = m
  · subst e
    unfold orN orV
    rw [nb_self, if_pos rfl, ag_self a.nan]
  · have hq : nbEq n.nan (ifN n) (ngN n) ⟨n.dg.toArray⟩ n.pw m.nan (ifN m) (ngN m) ⟨m.dg.toArray⟩ m.pw = false := by
      cases hb : nbEq n.nan (ifN n) (ngN n) ⟨n.dg.toArray⟩ n.pw m.nan (ifN m) (ngN m) ⟨m.dg.toArray⟩ m.pw with
      | false => rfl
      | true => exact absurd (nb_true a b hb) e
    obtain ⟨a1, a2, a3⟩ := sg_nf a
    obtain ⟨b1, b2, b3⟩ := sg_nf b
    unfold orN orV
    rw [hq, if_neg (by simp), a1, b1]
    unfold agN
    rw [a.nan, b.nan, if_neg (by simp : ¬ (false = true ∨ false = true))]
    by_cases hr : rkN n ≠ rkN m
    · rw [if_pos hr, if_pos (.inl hr)]
    · rw [if_neg hr, a2, b2, if_neg (by simp), a3]
      have hne : ¬ (rkN n ≠ rkN m ∨ rkN n ≠ 1 ∧ rkN n ≠ -1) := by
        rintro (h | h)
        · exact hr h
        · have h0 : rkN n = 0 := by have := rk_bd a; omega
          have h1 : rkN m = 0 := by omega
          refine e ?_
          have d1 : n.dg = [] := by
            by_cases hd : n.dg = []
            · exact hd
            · rw [rk_nf a, if_neg hd] at h0; split at h0 <;> omega
          have d2 : m.dg = [] := by
            by_cases hd : m.dg = []
            · exact hd
            · rw [rk_nf b, if_neg hd] at h1; split at h1 <;> omega
          rw [a.z d1, b.z d2]
      rw [if_neg hne]
      have hk : rkN n = if n.below = true then -1 else 1 := by
        rw [rk_nf a]
        by_cases hd : n.dg = []
        · exfalso; apply hne; right; rw [rk_nf a, if_pos hd]; omega
        · rw [if_neg hd]
      dsimp only
      rw [hk]
      generalize (if cmZ n.pw m.pw = 0 then cmB n.dg m.dg else cmZ n.pw m.pw) = x
      split <;> omega
theorem or_infL {z : Int} {m : Nm} (hz : z = 1 ∨ z = -1) (b : NF m) : orN (nmInf z) m = (agN (nmInf z) m).1 := by
  obtain ⟨b1, b2, b3⟩ := sg_nf b
  have hr := rk_bd b
  have hq : nbEq (nmInf z).nan (ifN (nmInf z)) (ngN (nmInf z)) ⟨(nmInf z).dg.toArray⟩ (nmInf z).pw m.nan (ifN m) (ngN m) ⟨m.dg.toArray⟩ m.pw = false := by
    unfold nbEq
    rw [b2, show ifN (nmInf z) = true from by rcases hz with rfl | rfl <;> rfl]
    simp
  have hi : ifN (nmInf z) = true := by rcases hz with rfl | rfl <;> rfl
  have hg : ngN (nmInf z) = decide (z < 0) := by rcases hz with rfl | rfl <;> rfl
  have hs : sgV (ngN (nmInf z)) (ifN (nmInf z)) (nmInf z).dg = z := by rcases hz with rfl | rfl <;> rfl
  have hk : rkN (nmInf z) = 2 * z := by rcases hz with rfl | rfl <;> rfl
  have hA : agN (nmInf z) m = (cmZ (2 * z) (rkN m), true) := by
    unfold agN
    rw [b.nan, show (nmInf z).nan = false from rfl, if_neg (by simp : ¬ (false = true ∨ false = true)), hk, if_pos (.inl (by omega))]
  unfold orN orV
  rw [hq, if_neg (by simp), hs, b1, hi, b2, hg, hA]
  unfold cmZ
  rcases hz with rfl | rfl <;> rcases hr with e | e | e <;> rw [e] <;> first | rfl | simp
theorem or_infR {z : Int} {n : Nm} (hz : z = 1 ∨ z = -1) (a : NF n) : orN n (nmInf z) = (agN n (nmInf z)).1 := by
  obtain ⟨b1, b2, b3⟩ := sg_nf a
  have hr := rk_bd a
  have hq : nbEq n.nan (ifN n) (ngN n) ⟨n.dg.toArray⟩ n.pw (nmInf z).nan (ifN (nmInf z)) (ngN (nmInf z)) ⟨(nmInf z).dg.toArray⟩ (nmInf z).pw = false := by
    unfold nbEq
    rw [b2, show ifN (nmInf z) = true from by rcases hz with rfl | rfl <;> rfl]
    simp
  have hi : ifN (nmInf z) = true := by rcases hz with rfl | rfl <;> rfl
  have hg : ngN (nmInf z) = decide (z < 0) := by rcases hz with rfl | rfl <;> rfl
  have hs : sgV (ngN (nmInf z)) (ifN (nmInf z)) (nmInf z).dg = z := by rcases hz with rfl | rfl <;> rfl
  have hk : rkN (nmInf z) = 2 * z := by rcases hz with rfl | rfl <;> rfl
  have hA : agN n (nmInf z) = (cmZ (rkN n) (2 * z), true) := by
    unfold agN
    rw [a.nan, show (nmInf z).nan = false from rfl, if_neg (by simp : ¬ (false = true ∨ false = true)), hk, if_pos (.inl (by omega))]
  unfold orN orV
  rw [hq, if_neg (by simp), hs, b1, hi, b2, hg, hA]
  unfold cmZ
  rcases hz with rfl | rfl <;> rcases hr with e | e | e <;> rw [e] <;> first | rfl | simp
theorem or_ag {n m : Nm} {l k : List UInt8} (hn : dblP l = some n) (hm : dblP k = some m) (h1 : n.nan = false) (h2 : m.nan = false) : orN n m = (agN n m).1 := by
  rcases nf_dbl hn with ⟨rfl, _⟩ | rfl | rfl | a
  · cases h1
  · rcases nf_dbl hm with ⟨rfl, _⟩ | rfl | rfl | b
    · cases h2
    · kernel_rfl
    · kernel_rfl
    · exact or_infL (.inl rfl) b
  · rcases nf_dbl hm with ⟨rfl, _⟩ | rfl | rfl | b
    · cases h2
    · kernel_rfl
    · kernel_rfl
    · exact or_infL (.inr rfl) b
  · rcases nf_dbl hm with ⟨rfl, _⟩ | rfl | rfl | b
    · cases h2
    · exact or_infR (.inl rfl) a
    · exact or_infR (.inr rfl) a
    · exact or_nf a b
/-- Two numbers that were read, held against each other by the document. -/
theorem rorder_nm {n m : Nm} {l k : List UInt8} (hn : dblP l = some n) (hm : dblP k = some m) (h1 : n.nan = false) (h2 : m.nan = false) (w : World) :
    Calls Tryz.prog 40 #[rnV n, rnV m] w fun e w' => e = .returned (.int .i64 (agN n m).1) ∧ Below w.heap.size w w' := by
  have h := rorder_calls n.nan (ifN n) (ngN n) ⟨n.dg.toArray⟩ n.pw m.nan (ifN m) (ngN m) ⟨m.dg.toArray⟩ m.pw w
  rw [← or_ag hn hm h1 h2]
  exact h
end Go.Proofs.YtlhcejbimlilaaaGreatDoor
/- Bytes as texts: hexBinary, base64Binary: one text for each value; truth. Plain. -/
namespace Go.Tk
open Go Go.RowKit
/-- What is cut from the end is signs =. -/
theorem tre_app (l : List UInt8) : ∃ k, l = tre l ++ List.replicate k 61 := by
  have h := List.takeWhile_append_dropWhile (p := fun c : UInt8 => c == 61) (l := l.reverse)
  have ha : ∀ c ∈ l.reverse.takeWhile (fun c : UInt8 => c == 61), c = 61 := fun c hc => by
    have := List.all_eq_true.1 (List.all_takeWhile (p := fun c : UInt8 => c == 61) (l := l.reverse)) c hc
    simpa using this
  obtain ⟨k, hk⟩ : ∃ k, l.reverse.takeWhile (fun c : UInt8 => c == 61) = List.replicate k 61 := ⟨_, List.eq_replicate_of_mem ha⟩
  rw [hk] at h
  refine ⟨k, ?_⟩
  have h2 := congrArg List.reverse h
  rw [List.reverse_append, List.reverse_replicate, List.reverse_reverse] at h2
  exact h2.symm
end Go.Tk
