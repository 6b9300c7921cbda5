/- VgB VdJ, laid as one. -/
import Derived.Test.YtlhcejbimlilaaaGreatDoorVdI
import Derived.Test.YtlhcejbimlilaaaGreatDoorVdT
import Derived.Test.YtlhcejbimlilaaaGreatDoorVbB
set_option linter.unusedVariables false
set_option linter.unusedSimpArgs false
/- The document's order of moments is the program's: plain. -/
namespace Go.Tk
open Go Go.RowKit
/-- Seconds, then the digits behind. -/
def cqE (x y : Int) (p q : List UInt8) : Int := if cmZ x y = 0 then cmB p q else cmZ x y
theorem cqE_neg (x y : Int) (p q : List UInt8) : cqE y x q p = -cqE x y p q := by
  unfold cqE
  rw [cmZ_neg x y, cmB_neg p q]
  by_cases h : cmZ x y = 0
  · rw [if_pos h, if_pos (by omega)]
  · rw [if_neg h, if_neg (by omega)]
theorem cmZ_add (x y k : Int) : cmZ (x + k) (y + k) = cmZ x y := by
  unfold cmZ
  by_cases h : x < y
  · rw [if_pos h, if_pos (by omega)]
  · rw [if_neg h, if_neg (by omega)]
    by_cases h2 : y < x
    · rw [if_pos h2, if_pos (by omega)]
    · rw [if_neg h2, if_neg (by omega)]
theorem cqE_add (x y k : Int) (p q : List UInt8) : cqE (x + k) (y + k) p q = cqE x y p q := by unfold cqE; rw [cmZ_add]
theorem bf_cq (A B : Mt) : bfM A B = cqE A.sec B.sec A.part B.part := by
  unfold bfM cqE cmZ
  by_cases h : A.sec < B.sec
  · rw [if_pos h, if_pos h, if_neg (by decide)]
  · rw [if_neg h, if_neg h]
    by_cases h2 : B.sec < A.sec
    · rw [if_pos h2, if_pos h2, if_neg (by decide)]
    · rw [if_neg h2, if_neg h2, if_pos rfl]
theorem cmZ_gt {x y : Int} (h : y < x) : cmZ x y = 1 := by unfold cmZ; rw [if_neg (by omega), if_pos h]
end Go.Tk
namespace Go.Proofs.YtlhcejbimlilaaaGreatDoor
open Go.RowKit Go.Tk
theorem apE_cq (a b : Mo8) (lk k : Int) : apE a b lk k = cqE (scR a lk) (scR b lk + 60 * k) a.f.data.toList b.f.data.toList := rfl
/-- A moment of the program and one of the document that say the same. -/
structure MRel (lk K : Int) (M : Mt) (m : Mo8) : Prop where
  sec : scR m lk = M.sec - 60 * M.zone + K
  part : m.f.data.toList = M.part
  zd : m.z = M.zoned
  z0 : M.zoned = false → M.zone = 0
theorem mix_law {lk K : Int} {T U : Mt} {t u : Mo8} (ht : MRel lk K T t) (hu : MRel lk K U u) (hz : T.zoned = false) : mxE u t lk = (-(mxM T U).1, (mxM T U).2) := by
  have z0 := ht.z0 hz
  have e1 : apE u t lk (-840) = -bfM (utM { T with zone := 840 }) (utM U) := by
    rw [apE_cq, bf_cq, ht.sec, hu.sec, ht.part, hu.part, ← cqE_neg, z0]
    show cqE (U.sec - 60 * U.zone + K) (T.sec - 60 * 0 + K + 60 * -840) _ _ = cqE (U.sec - 60 * U.zone) (T.sec - 60 * 840) _ _
    rw [← cqE_add (U.sec - 60 * U.zone) (T.sec - 60 * 840) K]
    congr 1
    omega
  have e2 : apE u t lk 840 = -bfM (utM { T with zone := -840 }) (utM U) := by
    rw [apE_cq, bf_cq, ht.sec, hu.sec, ht.part, hu.part, ← cqE_neg, z0]
    show cqE (U.sec - 60 * U.zone + K) (T.sec - 60 * 0 + K + 60 * 840) _ _ = cqE (U.sec - 60 * U.zone) (T.sec - 60 * -840) _ _
    rw [← cqE_add (U.sec - 60 * U.zone) (T.sec - 60 * -840) K]
    congr 1
    omega
  have e3 : bfM (utM { T with zone := 840 }) (utM U) = 0 → bfM (utM { T with zone := -840 }) (utM U) = 1 := fun h => by
    rw [bf_cq] at h ⊢
    have h' : cqE (T.sec - 60 * 840) (U.sec - 60 * U.zone) T.part U.part = 0 := h
    show cqE (T.sec - 60 * -840) (U.sec - 60 * U.zone) T.part U.part = 1
    unfold cqE at h' ⊢
    have hc : cmZ (T.sec - 60 * 840) (U.sec - 60 * U.zone) = 0 := by
      by_cases c : cmZ (T.sec - 60 * 840) (U.sec - 60 * U.zone) = 0
      · exact c
      · rw [if_neg c] at h'; exact absurd h' c
    have := (cmZ_zero _ _).1 hc
    rw [cmZ_gt (by omega), if_neg (by decide)]
  unfold mxE mxM
  rw [e1, e2]
  obtain ⟨A, hA⟩ : ∃ A, A = bfM (utM { T with zone := 840 }) (utM U) := ⟨_, rfl⟩
  obtain ⟨B, hB⟩ : ∃ A, A = bfM (utM { T with zone := -840 }) (utM U) := ⟨_, rfl⟩
  rw [← hA, ← hB] at e3 ⊢
  by_cases c : A = B
  · have cA : A ≠ 0 := fun h => by have := e3 h; omega
    rw [if_neg (by omega), if_neg (by rintro (h | h); exact cA h; exact h c)]
  · rw [if_pos (by omega), if_pos (.inr c)]; rfl
theorem moE_agM {lk K : Int} {M N : Mt} {m n : Mo8} (hm : MRel lk K M m) (hn : MRel lk K N n) : moE m n lk = agM M N := by
  unfold moE agM
  rw [hm.zd, hn.zd]
  by_cases hz : M.zoned = N.zoned
  · rw [if_pos hz, if_pos hz, apE_cq, bf_cq, hm.sec, hn.sec, hm.part, hn.part]
    show (cqE (M.sec - 60 * M.zone + K) (N.sec - 60 * N.zone + K + 60 * 0) M.part N.part, true) = (cqE (M.sec - 60 * M.zone) (N.sec - 60 * N.zone) M.part N.part, true)
    rw [show N.sec - 60 * N.zone + K + 60 * 0 = N.sec - 60 * N.zone + K by omega, cqE_add]
  · rw [if_neg hz, if_neg hz]
    cases h1 : M.zoned with
    | true =>
      have h2 : N.zoned = false := by rw [h1] at hz; cases h : N.zoned with | true => exact absurd h.symm hz | false => rfl
      rw [if_pos rfl, if_pos rfl, mix_law hn hm h2]
    | false =>
      rw [if_neg (by simp), if_neg (by simp), mix_law hm hn h1]
      dsimp only
      rw [Int.neg_neg]
theorem rel_zone {zt : List UInt8} {z : Bool} {o : Int} (h : rdZ zt = some (z, o)) : -840 ≤ o ∧ o ≤ 840 ∧ (z = false → o = 0) := by
  unfold rdZ at h
  cases zt with
  | nil =>
    obtain ⟨rfl, rfl⟩ := Prod.mk.inj (Option.some.inj h)
    omega
  | cons c t =>
    dsimp only at h
    split at h
    · obtain ⟨rfl, rfl⟩ := Prod.mk.inj (Option.some.inj h)
      exact ⟨by omega, by omega, fun h => by cases h⟩
    split at h
    · cases h
    cases h1 : twoP t [58] with
    | none => rw [h1] at h; cases h
    | some x =>
      obtain ⟨v, r⟩ := x
      rw [h1] at h
      dsimp only at h
      cases h2 : twoP r [] with
      | none => rw [h2] at h; cases h
      | some y =>
        obtain ⟨m, e⟩ := y
        rw [h2] at h
        dsimp only at h
        split at h
        · cases h
        rename_i hb
        obtain ⟨rfl, ho⟩ := Prod.mk.inj (Option.some.inj h)
        obtain ⟨a, b, u, rfl, hd1, hp1, hv, hr⟩ := twoP_some h1
        obtain ⟨a2, b2, u2, rfl, hd2, hp2, hm, he⟩ := twoP_some h2
        have t1 := tw8_yes (u := u) hd1
        have t2 := tw8_yes (u := u2) hd2
        rw [← hv] at t1
        rw [← hm] at t2
        refine ⟨?_, ?_, fun h => by cases h⟩
        · split at ho <;> omega
        · split at ho <;> omega
theorem dt_rel {s : List UInt8} {m : Mo8} {M : Mt} (h : RkDT s m) (hM : rdDT s = some M) : m.In ∧ MRel 6 (-5184000) M m := by
  obtain ⟨r, zt, hy, hp, ⟨ht, h0, h1, mi0, mi1, s0, s1, _⟩, hz⟩ := h
  have e : rdDT s = some ⟨dyP m.y m.mo m.d * 86400 + (m.h * 3600 + m.mi * 60 + m.s), m.f.data.toList, m.z, m.o, if m.z = true ∧ m.o = 0 then [90] else zt⟩ := by
    unfold rdDT
    rw [dt_some hy]
    dsimp only
    rw [if_pos hp, ht]
    dsimp only
    unfold inP
    rw [hz]
    rfl
  rw [e] at hM
  obtain rfl := Option.some.inj hM
  obtain ⟨⟨y0, y1⟩, ⟨m1, m2⟩, ⟨d1, d2⟩, _⟩ := rdY_bd hy
  obtain ⟨o0, o1, oz⟩ := rel_zone hz
  have hb := mdP_bd m.y m.mo
  refine ⟨⟨by omega, by omega, m1, m2, by omega, by omega, h0, h1, mi0, mi1, s0, s1, o0, o1⟩, ⟨?_, rfl, rfl, oz⟩⟩
  unfold scR
  rw [if_neg (by rintro ⟨h, _⟩; cases h)]
  dsimp only
  omega
theorem day_rel {s : List UInt8} {m : Mo8} {M : Mt} (h : RkDay s m) (hM : rdDay s = some M) : m.In ∧ MRel 7 (-5184000) M m := by
  obtain ⟨zt, hy, hz, a, b, c, d⟩ := h
  have e : rdDay s = some ⟨dyP m.y m.mo m.d * 86400, [], m.z, m.o, if m.z = true ∧ m.o = 0 then [90] else zt⟩ := by
    unfold rdDay
    rw [dt_some hy]
    dsimp only
    unfold inP
    rw [hz]
    rfl
  rw [e] at hM
  obtain rfl := Option.some.inj hM
  obtain ⟨⟨y0, y1⟩, ⟨m1, m2⟩, ⟨d1, d2⟩, _⟩ := rdY_bd hy
  obtain ⟨o0, o1, oz⟩ := rel_zone hz
  have hb := mdP_bd m.y m.mo
  refine ⟨⟨by omega, by omega, m1, m2, by omega, by omega, by omega, by omega, by omega, by omega, by omega, by omega, o0, o1⟩, ⟨?_, by rw [d], rfl, oz⟩⟩
  unfold scR
  rw [if_neg (by rintro ⟨h, _⟩; cases h), a, b, c]
  dsimp only
  omega
theorem clk_rel {s : List UInt8} {m : Mo8} {M : Mt} (h : RkClk s m) (hM : rdClk s = some M) : m.In ∧ MRel 8 26438400 M m := by
  obtain ⟨zt, ⟨ht, h0, h1, mi0, mi1, s0, s1, h24⟩, hz, ey, em, ed⟩ := h
  have e : rdClk s = some ⟨(m.h * 3600 + m.mi * 60 + m.s) % 86400, m.f.data.toList, m.z, m.o, if m.z = true ∧ m.o = 0 then [90] else zt⟩ := by
    unfold rdClk
    rw [ht]
    dsimp only
    unfold inP
    rw [hz]
    rfl
  rw [e] at hM
  obtain rfl := Option.some.inj hM
  obtain ⟨o0, o1, oz⟩ := rel_zone hz
  refine ⟨⟨by omega, by omega, by omega, by omega, by omega, by omega, h0, h1, mi0, mi1, s0, s1, o0, o1⟩, ⟨?_, rfl, rfl, oz⟩⟩
  unfold scR
  rw [ey, em, ed, show dyP 1 1 1 = 366 by decide]
  dsimp only
  by_cases c : m.h = 24
  · obtain ⟨a, b, _⟩ := h24 c
    rw [if_pos ⟨rfl, c⟩, c, a, b]
    omega
  · rw [if_neg (fun h => c h.2)]
    omega
end Go.Proofs.YtlhcejbimlilaaaGreatDoor
/- The document's within, whole. -/
namespace Go.Proofs.YtlhcejbimlilaaaGreatDoor
open Go.RowKit Go.Tk
theorem dec_of_int8 {l : List UInt8} {n : Nm} (h : intP l = some n) : decP l = some n := by
  unfold intP at h
  split at h
  · rename_i hc
    simp only [Bool.and_eq_true] at hc
    have hA : ctA (sgnR l) = sgnR l := by
      have := (ct_app (q := []) hc.2).1
      rw [List.append_nil] at this
      rw [this]; simp [ctA]
    have hB : ctB (sgnR l) = [] := by
      have := (ct_app (q := []) hc.2).2
      rw [List.append_nil] at this
      rw [this]; rfl
    unfold decP okP
    rw [hA, hB, if_pos (by simp only [Bool.and_eq_true, List.append_nil]; exact ⟨⟨hc.2, rfl⟩, hc.1⟩)]
    exact h
  · cases h
theorem int_nan {l : List UInt8} {n : Nm} (h : intP l = some n) : n.nan = false := (nf_int h).1.nan
/-- The document's within, of an integer's text. -/
theorem rwithin_calls (nm lo hi s : ByteArray) (lk : Int) (w : World) {n : Nm} (hn : intP s.data.toList = some n) (hs : s.size ≤ 65536) (hls : lo.size ≤ 100) (hhs : hi.size ≤ 100)
    (hl : lo.data.toList = [] ∨ ∃ l, intP lo.data.toList = some l) (hh : hi.data.toList = [] ∨ ∃ l, intP hi.data.toList = some l) :
    Calls Tryz.prog 72 #[.agg #[.string nm, .int .i64 lk, .string lo, .string hi], .string s] w fun e w' => e = .returned (.bool (witP s.data.toList lo.data.toList hi.data.toList)) ∧ Below w.heap.size w w' := by
  have hw : witP s.data.toList lo.data.toList hi.data.toList = ((decide (lo.data.toList = []) || decide (0 ≤ (agN n (inN lo.data.toList)).1)) && (decide (hi.data.toList = []) || decide ((agN n (inN hi.data.toList)).1 ≤ 0))) := by unfold witP; rw [hn]
  rw [hw]
  have ds := fun w => rdecimal_calls s 0 w (by omega) (by omega) (by omega)
  have dl := fun w => rdecimal_calls lo 0 w (by omega) (by omega) (by omega)
  have dh := fun w => rdecimal_calls hi 0 w (by omega) (by omega) (by omega)
  unfold RdD at ds dl dh
  have en : (decE s.data.toList 0).getD nmZ = n := by show (decP s.data.toList).getD nmZ = n; rw [dec_of_int8 hn]; rfl
  have inD : ∀ {t : ByteArray} {l : Nm}, intP t.data.toList = some l → (decE t.data.toList 0).getD nmZ = l ∧ inN t.data.toList = l := fun {t l} h => ⟨by show (decP t.data.toList).getD nmZ = l; rw [dec_of_int8 h]; rfl, by unfold inN; rw [h]; rfl⟩
  obtain ⟨n1, n2, n3, nd, np, hN⟩ := rnV_ex ((decE s.data.toList 0).getD nmZ)
  obtain ⟨l1, l2, l3, ld, lp, hL⟩ := rnV_ex ((decE lo.data.toList 0).getD nmZ)
  obtain ⟨h1, h2, h3, hd, hp, hH⟩ := rnV_ex ((decE hi.data.toList 0).getD nmZ)
  rw [hN] at ds
  rw [hL] at dl
  rw [hH] at dh
  have ordL : ∀ {l : Nm}, intP lo.data.toList = some l → ∀ w, Calls Tryz.prog 40 #[.agg #[.bool l1, .bool l2, .bool l3, .string ld, .int .i64 lp], .agg #[.bool n1, .bool n2, .bool n3, .string nd, .int .i64 np]] w fun e w' => e = .returned (.int .i64 (agN l n).1) ∧ Below w.heap.size w w' := fun {l} h w => by
    rw [← hL, ← hN, (inD h).1, en]
    exact rorder_nm (dec_dbl (dec_of_int8 h)) (dec_dbl (dec_of_int8 hn)) (int_nan h) (int_nan hn) w
  have ordH : ∀ {l : Nm}, intP hi.data.toList = some l → ∀ w, Calls Tryz.prog 40 #[.agg #[.bool n1, .bool n2, .bool n3, .string nd, .int .i64 np], .agg #[.bool h1, .bool h2, .bool h3, .string hd, .int .i64 hp]] w fun e w' => e = .returned (.int .i64 (agN n l).1) ∧ Below w.heap.size w w' := fun {l} h w => by
    rw [← hH, ← hN, (inD h).1, en]
    exact rorder_nm (dec_dbl (dec_of_int8 hn)) (dec_dbl (dec_of_int8 h)) (int_nan hn) (int_nan h) w
  by_cases el : lo.data.toList = []
  · have elb : (lo.toList == []) = true := by rw [Lib.toList_data, el]; rfl
    rw [decide_eq_true el, Bool.true_or, Bool.true_and]
    by_cases eh : hi.data.toList = []
    · have ehb : (hi.toList == []) = true := by rw [Lib.toList_data, eh]; rfl
      rw [decide_eq_true eh, Bool.true_or]
      exact wi_00 nm lo hi s lk w n1 n2 n3 nd np l1 l2 l3 ld lp h1 h2 h3 hd hp _ _ _ 0 0 elb ehb ds dl dh
    · have ehb : (hi.toList == []) = false := by rw [Lib.toList_data]; exact beq_false_of_ne eh
      obtain ⟨h, hhi⟩ := hh.resolve_left eh
      rw [decide_eq_false eh, Bool.false_or, (inD hhi).2]
      exact wi_01 nm lo hi s lk w n1 n2 n3 nd np l1 l2 l3 ld lp h1 h2 h3 hd hp _ _ _ 0 _ elb ehb ds dl dh (ordH hhi)
  · have elb : (lo.toList == []) = false := by rw [Lib.toList_data]; exact beq_false_of_ne el
    obtain ⟨l, hlo⟩ := hl.resolve_left el
    rw [decide_eq_false el, Bool.false_or, (inD hlo).2]
    have hneg := agN_neg n l
    by_cases hc : (agN l n).1 ≤ 0
    · have hc2 : 0 ≤ (agN n l).1 := by rw [hneg] at hc; dsimp only at hc; omega
      rw [decide_eq_true hc2, Bool.true_and]
      by_cases eh : hi.data.toList = []
      · have ehb : (hi.toList == []) = true := by rw [Lib.toList_data, eh]; rfl
        rw [decide_eq_true eh, Bool.true_or]
        exact wi_10 nm lo hi s lk w n1 n2 n3 nd np l1 l2 l3 ld lp h1 h2 h3 hd hp _ _ _ _ 0 elb ehb hc ds dl dh (ordL hlo)
      · have ehb : (hi.toList == []) = false := by rw [Lib.toList_data]; exact beq_false_of_ne eh
        obtain ⟨h, hhi⟩ := hh.resolve_left eh
        rw [decide_eq_false eh, Bool.false_or, (inD hhi).2]
        exact wi_11 nm lo hi s lk w n1 n2 n3 nd np l1 l2 l3 ld lp h1 h2 h3 hd hp _ _ _ _ _ elb ehb hc ds dl dh (ordL hlo) (ordH hhi)
    · have hc2 : ¬ 0 ≤ (agN n l).1 := by rw [hneg] at hc; dsimp only at hc; omega
      rw [decide_eq_false hc2, Bool.false_and]
      exact wi_1x nm lo hi s lk w n1 n2 n3 nd np l1 l2 l3 ld lp h1 h2 h3 hd hp _ _ _ _ 0 elb (by omega) ds dl dh (ordL hlo)
end Go.Proofs.YtlhcejbimlilaaaGreatDoor
