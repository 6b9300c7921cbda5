/- BitsWrites: two buffers in turns. -/
import Derived.Test.YtgkbkkhlnidigaaBitsRaw
import Derived.Deep.RegionHeld3
import Derived.Deep.DeepCutAuto
set_option linter.unusedVariables false
set_option linter.unusedSimpArgs false
namespace Go.Proofs.Ytgkbkkhlnidigaa
open Go.RowKit Go.Tk
/-- What becomes of a buffer by a call. -/
def stepSt (most : Int) (st : List Int × Bool) (o : OpV) : List Int × Bool :=
  if o.kind = 1 then putF most st [o.n % 256] else if o.kind = 2 then putF most st o.bz else if o.kind = 3 then putF most st (vz o.n) else if o.kind = 4 then putF most st (fz o.n (oct o.k)) else st
theorem putF_len (most : Int) (st : List Int × Bool) (ns : List Int) : (putF most st ns).1.length ≤ st.1.length + ns.length := by
  unfold putF; split
  · omega
  · split <;> simp
theorem stepSt_len (most : Int) (st : List Int × Bool) (o : OpV) (h : o.bz.length = o.bl) : (stepSt most st o).1.length ≤ st.1.length + o.bl + 10 := by
  unfold stepSt
  split
  · have := putF_len most st [o.n % 256]; simp at this; omega
  · split
    · have := putF_len most st o.bz; omega
    · split
      · have := putF_len most st (vz o.n); have := (vz_len o.n).2; omega
      · split
        · have := putF_len most st (fz o.n (oct o.k)); rw [fz_len] at this; have := oct_le o.k; omega
        · omega
theorem wrote_calls (W w : World) (base p q : Nat) (most : Int) (st : List Int × Bool) (v u : Value) (h : Pr w base p q most st v u) (o : OpV) (hwb : W.heap.size ≤ base) (hW : Below W.heap.size W w) (b i : Nat) (ho : OpOk W b i o) (h0 : 0 ≤ most) (h1 : most ≤ 9223372036854775807) (hb : st.1.length + o.bl + 20 ≤ 140737488355000) (hbl : o.bl ≤ 140737488351232) :
    Calls Try.prog 21 #[.pointer (some ⟨p, 0, none⟩), .pointer (some ⟨q, 0, none⟩), .agg #[.int .i64 o.kind, .int .u64 o.n, .int .i64 o.k, .slice o.ba o.bl o.bc, .bool o.two]] w (WroteP w base p q most (stepSt most st o) v u) := by
  have hl := ho.sl.len
  obtain ⟨kind, n, k, ba, bl, bc, bz, two⟩ := o
  have kr := ho.kr
  have nr := ho.nr
  have kkr := ho.kkr
  simp only at kr nr kkr hb hbl hl
  by_cases e1 : kind = 1
  · subst e1; exact wrote1 w base p q most st v u h n k ba bl bc two nr.1 nr.2 kkr.1 kkr.2 h0 h1 (by omega)
  by_cases e2 : kind = 2
  · subst e2; exact wrote2 W w base p q most st v u h n k ba bl bc two bz hwb hW ho.sl ho.nil h0 h1 (by omega) hbl
  by_cases e3 : kind = 3
  · subst e3; exact wrote3 w base p q most st v u h n k ba bl bc two nr.1 nr.2 kkr.1 kkr.2 h0 h1 (by omega)
  by_cases e4 : kind = 4
  · subst e4; exact wrote4 w base p q most st v u h n k ba bl bc two nr.1 nr.2 kkr.1 kkr.2 h0 h1 (by omega)
  have es : stepSt most st ⟨kind, n, k, ba, bl, bc, bz, two⟩ = st := by unfold stepSt; rw [if_neg e1, if_neg e2, if_neg e3, if_neg e4]
  rw [es]
  by_cases e7 : kind = 7
  · subst e7; exact wrote7 w base p q most st v u h n k ba bl bc two (by omega)
  · exact wrote0 w base p q most st v u h kind n k ba bl bc two (by omega) kr.1 kr.2 e1 e2 e3 e4 e7
/-- A buffer's block when it is new. -/
def newB (m : Int) : Obj := .cells #[.slice none 0 0, .int .i64 (max m 0), .bool false] 90 (0, 0)
def newR (m : Int) : Obj := .cells #[.int .i64 (max m 0), .slice none 0 0, .bool false] 92 (0, 0)
theorem new_eq (w : World) (m : Int) (m0 : -9223372036854775808 ≤ m) (m1 : m ≤ 9223372036854775807) :
    Calls Try.prog 19 #[.int .i64 m] w fun e w' => e = .returned (.pointer (some ⟨w.heap.size, 0, none⟩)) ∧ w' = w.alloc (newB m) := by
  unfold newB
  rcases Int.lt_trichotomy m 0 with hm | rfl | hm
  · rw [show max m 0 = 0 by omega]
    go_enter Try.func19, Try.ntmps19
    go_wp2
    go_ret
    exact ⟨rfl, rfl⟩
  · rw [show max (0:Int) 0 = 0 by omega]
    go_enter Try.func19, Try.ntmps19
    go_wp2
    go_ret
    exact ⟨rfl, rfl⟩
  · rw [show max m 0 = m by omega]
    go_enter Try.func19, Try.ntmps19
    go_wp2
    go_ret
    exact ⟨rfl, rfl⟩
theorem rnew_eq (w : World) (m : Int) (m0 : -9223372036854775808 ≤ m) (m1 : m ≤ 9223372036854775807) :
    Calls Try.prog 20 #[.int .i64 m] w fun e w' => e = .returned (.pointer (some ⟨w.heap.size, 0, none⟩)) ∧ w' = w.alloc (newR m) := by
  unfold newR
  rcases Int.lt_trichotomy m 0 with hm | rfl | hm
  · rw [show max m 0 = 0 by omega]
    go_enter Try.func20, Try.ntmps20
    go_wp2
    go_ret
    exact ⟨rfl, rfl⟩
  · rw [show max (0:Int) 0 = 0 by omega]
    go_enter Try.func20, Try.ntmps20
    go_wp2
    go_ret
    exact ⟨rfl, rfl⟩
  · rw [show max m 0 = m by omega]
    go_enter Try.func20, Try.ntmps20
    go_wp2
    go_ret
    exact ⟨rfl, rfl⟩
/-- Two buffers, new, in an array of their own. -/
def TwoNew (w : World) (t : TypeId) (o1 o2 : Obj) (s : Value) (wx : World) : Prop := ∃ g p1 p2, s = .pointer (some ⟨g, 0, none⟩) ∧ wx.heap[g]? = some (.cells #[.pointer (some ⟨p1, 0, none⟩), .pointer (some ⟨p2, 0, none⟩)] t (0, 0)) ∧ wx.heap[p1]? = some o1 ∧ wx.heap[p2]? = some o2 ∧ w.heap.size ≤ g ∧ w.heap.size ≤ p1 ∧ w.heap.size ≤ p2 ∧ p1 ≠ p2 ∧ g ≠ p1 ∧ g ≠ p2 ∧ Below w.heap.size w wx
/-- Two pairs of buffers in their arrays. -/
structure TwoI (W : World) (g k p1 p2 q1 q2 : Nat) (M1 M2 : Int) (n : Nat) (w : World) (s1 s2 : List Int × Bool) (v1 u1 v2 u2 : Value) : Prop where
  A : Pr w W.heap.size p1 q1 M1 s1 v1 u1
  B : Pr w W.heap.size p2 q2 M2 s2 v2 u2
  D : ∀ i, Fp2 p1 q1 v1 u1 i → ¬ Fp2 p2 q2 v2 u2 i
  G : w.heap[g]? = some (.cells #[.pointer (some ⟨p1, 0, none⟩), .pointer (some ⟨p2, 0, none⟩)] 48 (0, 0))
  K : w.heap[k]? = some (.cells #[.pointer (some ⟨q1, 0, none⟩), .pointer (some ⟨q2, 0, none⟩)] 51 (0, 0))
  gA : ¬ Fp2 p1 q1 v1 u1 g
  gB : ¬ Fp2 p2 q2 v2 u2 g
  kA : ¬ Fp2 p1 q1 v1 u1 k
  kB : ¬ Fp2 p2 q2 v2 u2 k
  bel : Below W.heap.size W w
  l1 : s1.1.length ≤ n
  l2 : s2.1.length ≤ n
theorem Fp2.step {w : World} {p q : Nat} {v v' u u' : Value} (h1 : OwnStep w v v') (h2 : OwnStep w u u') {k : Nat} (hk : Fp2 p q v' u' k) : Fp2 p q v u k ∨ w.heap.size ≤ k := by
  rcases hk with hk | hk
  · exact (Fp.step h1 hk).imp .inl id
  · exact (Fp.step h2 hk).imp .inr id
theorem TwoI.one {W : World} {g k p1 p2 q1 q2 : Nat} {M1 M2 : Int} {n : Nat} {w : World} {s1 s2 : List Int × Bool} {v1 u1 v2 u2 : Value} (h : TwoI W g k p1 p2 q1 q2 M1 M2 n w s1 s2 v1 u1 v2 u2)
    {s' : List Int × Bool} {e : Ending} {w' : World} (hw : WroteP w W.heap.size p1 q1 M1 s' v1 u1 e w') {n' : Nat} (hl : s'.1.length ≤ n') (hn : n ≤ n') : ∃ v' u', e = .returned (.bool true) ∧ TwoI W g k p1 p2 q1 q2 M1 M2 n' w' s' s2 v' u' v2 u2 := by
  obtain ⟨v', u', he, hP, hK, o1, o2⟩ := hw
  have gl := (Array.getElem?_eq_some_iff.1 h.G).1
  have kl := (Array.getElem?_eq_some_iff.1 h.K).1
  refine ⟨v', u', he, hP, h.B.kept hK (fun i hi hf => h.D i hf hi), fun i hi hf => ?_, (hK.block g gl h.gA).trans h.G, (hK.block k kl h.kA).trans h.K, fun hf => ?_, h.gB, fun hf => ?_, h.kB,
    h.bel.trans (hK.below h.bel.size (fun i hi => (h.A.lt i hi).1)), hl, Nat.le_trans h.l2 hn⟩
  · rcases Fp2.step o1 o2 hi with h1 | h1
    · exact h.D i h1 hf
    · have := (h.B.lt i hf).2; omega
  · rcases Fp2.step o1 o2 hf with h1 | h1
    · exact h.gA h1
    · omega
  · rcases Fp2.step o1 o2 hf with h1 | h1
    · exact h.kA h1
    · omega
theorem TwoI.two {W : World} {g k p1 p2 q1 q2 : Nat} {M1 M2 : Int} {n : Nat} {w : World} {s1 s2 : List Int × Bool} {v1 u1 v2 u2 : Value} (h : TwoI W g k p1 p2 q1 q2 M1 M2 n w s1 s2 v1 u1 v2 u2)
    {s' : List Int × Bool} {e : Ending} {w' : World} (hw : WroteP w W.heap.size p2 q2 M2 s' v2 u2 e w') {n' : Nat} (hl : s'.1.length ≤ n') (hn : n ≤ n') : ∃ v' u', e = .returned (.bool true) ∧ TwoI W g k p1 p2 q1 q2 M1 M2 n' w' s1 s' v1 u1 v' u' := by
  obtain ⟨v', u', he, hP, hK, o1, o2⟩ := hw
  have gl := (Array.getElem?_eq_some_iff.1 h.G).1
  have kl := (Array.getElem?_eq_some_iff.1 h.K).1
  refine ⟨v', u', he, h.A.kept hK (fun i hi hf => h.D i hi hf), hP, fun i hi hf => ?_, (hK.block g gl h.gB).trans h.G, (hK.block k kl h.kB).trans h.K, h.gA, fun hf => ?_, h.kA, fun hf => ?_,
    h.bel.trans (hK.below h.bel.size (fun i hi => (h.B.lt i hi).1)), Nat.le_trans h.l1 hn, hl⟩
  · rcases Fp2.step o1 o2 hf with h1 | h1
    · exact h.D i hi h1
    · have := (h.A.lt i hi).2; omega
  · rcases Fp2.step o1 o2 hf with h1 | h1
    · exact h.gB h1
    · omega
  · rcases Fp2.step o1 o2 hf with h1 | h1
    · exact h.kB h1
    · omega
theorem TwoI.drewN {W : World} {g k p1 p2 q1 q2 : Nat} {M1 M2 : Int} {n : Nat} {w : World} {s1 s2 : List Int × Bool} {v1 u1 v2 u2 : Value} (h : TwoI W g k p1 p2 q1 q2 M1 M2 n w s1 s2 v1 u1 v2 u2) (m : Nat) : TwoI W g k p1 p2 q1 q2 M1 M2 n (w.drewN m) s1 s2 v1 u1 v2 u2 :=
  ⟨h.A.drewN m, h.B.drewN m, h.D, h.G, h.K, h.gA, h.gB, h.kA, h.kB, below_drewN h.bel m, h.l1, h.l2⟩
theorem three_new (w : World) (A B C : Obj) : (((w.alloc A).alloc B).alloc C).drew.heap[w.heap.size]? = some A ∧ (((w.alloc A).alloc B).alloc C).drew.heap[w.heap.size + 1]? = some B ∧ (((w.alloc A).alloc B).alloc C).drew.heap[w.heap.size + 1 + 1]? = some C ∧ Below w.heap.size w (((w.alloc A).alloc B).alloc C).drew := by
  have s1 : (w.alloc A).heap.size = w.heap.size + 1 := by simp
  have s2 : ((w.alloc A).alloc B).heap.size = w.heap.size + 1 + 1 := by simp
  have n1 : (w.alloc A).heap[w.heap.size]? = some A := by show (w.heap.push _)[_]? = _; rw [Array.getElem?_push, if_pos rfl]
  have n2 : ((w.alloc A).alloc B).heap[w.heap.size + 1]? = some B := by show ((w.alloc A).heap.push _)[_]? = _; rw [Array.getElem?_push, if_pos s1.symm]
  have n3 : (((w.alloc A).alloc B).alloc C).heap[w.heap.size + 1 + 1]? = some C := by show (((w.alloc A).alloc B).heap.push _)[_]? = _; rw [Array.getElem?_push, if_pos s2.symm]
  refine ⟨?_, ?_, n3, ?_⟩
  · exact ((Below.heap_alloc ((w.alloc A).alloc B) C _ (by omega)).trans (Below.heap_alloc (w.alloc A) B _ (by omega))).trans n1
  · exact (Below.heap_alloc ((w.alloc A).alloc B) C _ (by omega)).trans n2
  · have h := ((((Below.refl w.heap.size w).alloc (Nat.le_refl _) A).alloc (by omega) B).alloc (by omega) C)
    exact ⟨h.os, h.tape, h.output, h.size, h.block⟩
set_option maxRecDepth 100000 in
set_option maxHeartbeats 2000000 in
theorem writes_calls (W : World) (m1 m2 : Int) (a1 : -9223372036854775808 ≤ m1) (a2 : m1 ≤ 9223372036854775807) (b1 : -9223372036854775808 ≤ m2) (b2 : m2 ≤ 9223372036854775807) (oa : Option Addr) (on oc : Nat) (ops : Nat → OpV) (h : OpsAt W oa on oc ops) (hn : on ≤ 1048576) (hbl : ∀ i, i < on → (ops i).bl ≤ 1048576) :
    Calls Try.prog 5 #[.agg #[.int .i64 m1, .int .i64 m2], .slice oa on oc] W fun e w' => e = .returned (.bool true) ∧ Below W.heap.size W w' := by
  go_enter Try.func5, Try.ntmps5
  have ca : (W.alloc (.cells #[.int .i64 m1, .int .i64 m2] 44)).cell? ⟨W.heap.size, 0, none⟩ = some (.int .i64 m1) := by simp [World.cell?_alloc_new]
  have cb : (W.alloc (.cells #[.int .i64 m1, .int .i64 m2] 44)).cell? ⟨W.heap.size, 1, none⟩ = some (.int .i64 m2) := by simp [World.cell?_alloc_new]
  have bw0 : Below W.heap.size W (W.alloc (.cells #[.int .i64 m1, .int .i64 m2] 44)) := (Below.refl _ W).alloc (Nat.le_refl _) _
  go_upto_region 1 with fail
  generalize W.alloc (.cells #[.int .i64 m1, .int .i64 m2] 44) = w0 at *
  go_cut [5] (fun s5 wx => TwoNew w0 48 (newB m1) (newB m2) s5 wx)
  case first =>
    have ea := World.new_ne _ _ ca
    have eb := World.new_ne _ _ cb
    go_region_held3 (fun w' => w'.cell? ⟨W.heap.size, 0, none⟩ = some (.int .i64 m1) ∧ w'.cell? ⟨W.heap.size, 1, none⟩ = some (.int .i64 m2)) (simp (maxDischargeDepth := 12) [*, World.cell?_alloc_some])
      (first
        | (go_at_call_of 19 (Value.int .i64 m1); refine (new_eq _ m1 a1 a2).mono ?_; rintro e w' ⟨rfl, rfl⟩)
        | (go_at_call_of 19 (Value.int .i64 m2); refine (new_eq _ m2 b1 b2).mono ?_; rintro e w' ⟨rfl, rfl⟩))
    · obtain ⟨n1, n2, n3, hb⟩ := three_new w0 (newB m1) (newB m2) (.cells #[.pointer (some ⟨w0.heap.size, 0, none⟩), .pointer (some ⟨w0.heap.size + 1, 0, none⟩)] 48)
      go_wp2_with fail
      go_meet
      exact ⟨_, _, _, rfl, n3, n1, n2, by omega, by omega, by omega, by omega, by omega, by omega, hb⟩
    · obtain ⟨n1, n2, n3, hb⟩ := three_new w0 (newB m1) (.cells #[.pointer (some ⟨w0.heap.size, 0, none⟩), .pointer (some ⟨w0.heap.size + 1 + 1, 0, none⟩)] 48) (newB m2)
      go_wp2_with fail
      go_meet
      exact ⟨_, _, _, rfl, n2, n1, n3, by omega, by omega, by omega, by omega, by omega, by omega, hb⟩
    · obtain ⟨n1, n2, n3, hb⟩ := three_new w0 (.cells #[.pointer (some ⟨w0.heap.size + 1, 0, none⟩), .pointer (some ⟨w0.heap.size + 1 + 1, 0, none⟩)] 48) (newB m1) (newB m2)
      go_wp2_with fail
      go_meet
      exact ⟨_, _, _, rfl, n1, n2, n3, by omega, by omega, by omega, by omega, by omega, by omega, hb⟩
  case rest =>
    rename World => wb
    obtain ⟨g, p1, p2, rfl, hg, hp1, hp2, g0, g1, g2, d12, dg1, dg2, hbx⟩ := hcut
    have cg0 : wb.cell? ⟨g, 0, none⟩ = some (.pointer (some ⟨p1, 0, none⟩)) := by rw [cell_of_row wb g 0 _ _ _ hg]; rfl
    have cg1 : wb.cell? ⟨g, 1, none⟩ = some (.pointer (some ⟨p2, 0, none⟩)) := by rw [cell_of_row wb g 1 _ _ _ hg]; rfl
    have l0 : W.heap.size < w0.heap.size := World.block_lt_of_cell? w0 _ ca
    have ca' : wb.cell? ⟨W.heap.size, 0, none⟩ = some (.int .i64 m1) := (hbx.cell (p := ⟨W.heap.size, 0, none⟩) l0).trans ca
    have cb' : wb.cell? ⟨W.heap.size, 1, none⟩ = some (.int .i64 m2) := (hbx.cell (p := ⟨W.heap.size, 1, none⟩) l0).trans cb
    go_upto_region 4 with fail
    go_cut [6] (fun s6 wy => TwoNew wb 51 (newR m1) (newR m2) s6 wy)
    case first =>
      have ea := World.new_ne _ _ ca'
      have eb := World.new_ne _ _ cb'
      go_region_held3 (fun w' => w'.cell? ⟨W.heap.size, 0, none⟩ = some (.int .i64 m1) ∧ w'.cell? ⟨W.heap.size, 1, none⟩ = some (.int .i64 m2)) (simp (maxDischargeDepth := 12) [*, World.cell?_alloc_some])
        (first
          | (go_at_call_of 20 (Value.int .i64 m1); refine (rnew_eq _ m1 a1 a2).mono ?_; rintro e w' ⟨rfl, rfl⟩)
          | (go_at_call_of 20 (Value.int .i64 m2); refine (rnew_eq _ m2 b1 b2).mono ?_; rintro e w' ⟨rfl, rfl⟩))
      · obtain ⟨n1, n2, n3, hb⟩ := three_new wb (newR m1) (newR m2) (.cells #[.pointer (some ⟨wb.heap.size, 0, none⟩), .pointer (some ⟨wb.heap.size + 1, 0, none⟩)] 51)
        go_wp2_with fail
        go_meet
        exact ⟨_, _, _, rfl, n3, n1, n2, by omega, by omega, by omega, by omega, by omega, by omega, hb⟩
      · obtain ⟨n1, n2, n3, hb⟩ := three_new wb (newR m1) (.cells #[.pointer (some ⟨wb.heap.size, 0, none⟩), .pointer (some ⟨wb.heap.size + 1 + 1, 0, none⟩)] 51) (newR m2)
        go_wp2_with fail
        go_meet
        exact ⟨_, _, _, rfl, n2, n1, n3, by omega, by omega, by omega, by omega, by omega, by omega, hb⟩
      · obtain ⟨n1, n2, n3, hb⟩ := three_new wb (.cells #[.pointer (some ⟨wb.heap.size + 1, 0, none⟩), .pointer (some ⟨wb.heap.size + 1 + 1, 0, none⟩)] 51) (newR m1) (newR m2)
        go_wp2_with fail
        go_meet
        exact ⟨_, _, _, rfl, n1, n2, n3, by omega, by omega, by omega, by omega, by omega, by omega, hb⟩
    case rest =>
      obtain ⟨kk, q1, q2, rfl, hk, hq1, hq2, k0, k1, k2, e12, ek1, ek2, hby⟩ := hcut
      have hgl := (Array.getElem?_eq_some_iff.1 hg).1
      have hp1l := (Array.getElem?_eq_some_iff.1 hp1).1
      have hp2l := (Array.getElem?_eq_some_iff.1 hp2).1
      have i0 : TwoI W g kk p1 p2 q1 q2 (max m1 0) (max m2 0) 0 wc ([], false) ([], false) (.slice none 0 0) (.slice none 0 0) (.slice none 0 0) (.slice none 0 0) := by
        have fp : ∀ i, ∀ p q : Nat, Fp2 p q (.slice none 0 0) (.slice none 0 0) i → i = p ∨ i = q := fun i p q hi => by
          rcases hi with (hi | hi) | (hi | hi)
          · exact .inl hi
          · simp [Value.ownBlock] at hi
          · exact .inr hi
          · simp [Value.ownBlock] at hi
        have fq : ∀ i, ∀ p : Nat, Fp p (.slice none 0 0) i → i = p := fun i p hi => by
          rcases hi with hi | hi
          · exact hi
          · simp [Value.ownBlock] at hi
        refine ⟨⟨⟨(hby.block p1 hp1l).trans hp1, Ow.nil _ _ _ _, by simp [Value.ownBlock], by omega⟩, ⟨hq1, Ow.nil _ _ _ _, by simp [Value.ownBlock], by omega⟩, ?_⟩, ⟨⟨(hby.block p2 hp2l).trans hp2, Ow.nil _ _ _ _, by simp [Value.ownBlock], by omega⟩, ⟨hq2, Ow.nil _ _ _ _, by simp [Value.ownBlock], by omega⟩, ?_⟩, ?_, (hby.block g hgl).trans hg, hk, ?_, ?_, ?_, ?_, ?_, by simp, by simp⟩
        · intro i hi hf; have := fq _ _ hi; have := fq _ _ hf; omega
        · intro i hi hf; have := fq _ _ hi; have := fq _ _ hf; omega
        · intro i hi hf
          have h1 := fp _ _ _ hi
          have h2 := fp _ _ _ hf
          omega
        · intro hf; have := fp _ _ _ hf; omega
        · intro hf; have := fp _ _ _ hf; omega
        · intro hf; have := fp _ _ _ hf; omega
        · intro hf; have := fp _ _ _ hf; omega
        · exact (bw0.trans (hbx.mono (by omega))).trans (hby.mono (by omega))
      have x1 : 0 ≤ max m1 0 ∧ max m1 0 ≤ 9223372036854775807 := by omega
      have x2 : 0 ≤ max m2 0 ∧ max m2 0 ≤ 9223372036854775807 := by omega
      clear hp1 hp2 hq1 hq2 cg0 cg1 ca cb ca' cb' hk hg hbx hby bw0 hgl hp1l hp2l g0 g1 g2 d12 dg1 dg2 k0 k1 k2 e12 ek1 ek2 l0
      generalize max m1 0 = M1 at *
      generalize max m2 0 = M2 at *
      go_wp2
      have hon := h.le
      have hoc := h.max
      go_loopw [7] (fun i wr => ∃ (j : Nat) (s1 s2 : List Int × Bool) (v1 u1 v2 u2 : Value), i = .int .i64 j ∧ j ≤ on ∧ TwoI W g kk p1 p2 q1 q2 M1 M2 (j * 1048600) wr s1 s2 v1 u1 v2 u2) (fun i _ => on - (intOf i).toNat)
      case atStart => exact ⟨0, _, _, _, _, _, _, rfl, by omega, i0⟩
      case round =>
        obtain ⟨j, s1, s2, v1, u1, v2, u2, rfl, hj, hI⟩ := hrel
        have l1 := hI.l1
        have l2 := hI.l2
        by_cases hm : j < on
        · obtain ⟨b, o, rfl, hop⟩ := h.at_ j hm
          have hblj := hbl j hm
          generalize ops j = opv at *
          have hop' := hop.below hI.bel
          have c0 := hop'.c0
          have c1 := hop'.c1
          have c2 := hop'.c2
          have c3 := hop'.c3
          have c4 := hop'.c4
          have t1 := stepSt_len M1 s1 opv hop.sl.len
          have t2 := stepSt_len M2 s2 opv hop.sl.len
          clear hop'
          cases e : opv.two with
          | false =>
            rw [e] at c4
            have E' := Lib.hid e
            clear e
            have cg : wr.cell? ⟨g, 0, none⟩ = some (.pointer (some ⟨p1, 0, none⟩)) := by rw [cell_of_row wr g 0 _ _ _ hI.G]; rfl
            have ck : wr.cell? ⟨kk, 0, none⟩ = some (.pointer (some ⟨q1, 0, none⟩)) := by rw [cell_of_row wr kk 0 _ _ _ hI.K]; rfl
            go_wp2_with fail
            refine wp_region_quiet_tail (fun w' => ∃ n, w' = World.drewN wr n) 10 (by kernel_rfl) (by kernel_rfl) ⟨1, rfl⟩ ?_
            simp only [List.take_succ_cons, List.take_zero, List.drop_succ_cons, List.drop_zero]
            repeat (go_big_quiet_step (fail))
            refine wpQuiet_nil ?_
            rintro _ ⟨n1, rfl⟩
            have hwc := wrote_calls W (wr.drewN n1) W.heap.size p1 q1 M1 s1 v1 u1 (hI.A.drewN n1) opv (Nat.le_refl _) (below_drewN hI.bel n1) b _ hop x1.1 x1.2 (by omega) (by omega)
            rw [E'.out] at hwc
            go_wp2_with (go_at_call 21; refine hwc.mono ?_; rintro e w2 hw; obtain ⟨v', u', rfl, hI2⟩ := (hI.drewN n1).one hw (n' := (j + 1) * 1048600) (by omega) (by omega); clear hw)
            go_roundw
            case rel => exact ⟨j + 1, _, _, _, _, _, _, by simp, by omega, hI2⟩
            case measure => simp [intOf]; omega
          | true =>
            rw [e] at c4
            have E' := Lib.hid e
            clear e
            have cg : wr.cell? ⟨g, 1, none⟩ = some (.pointer (some ⟨p2, 0, none⟩)) := by rw [cell_of_row wr g 1 _ _ _ hI.G]; rfl
            have ck : wr.cell? ⟨kk, 1, none⟩ = some (.pointer (some ⟨q2, 0, none⟩)) := by rw [cell_of_row wr kk 1 _ _ _ hI.K]; rfl
            go_wp2_with fail
            refine wp_region_quiet_tail (fun w' => ∃ n, w' = World.drewN wr n) 10 (by kernel_rfl) (by kernel_rfl) ⟨1, rfl⟩ ?_
            simp only [List.take_succ_cons, List.take_zero, List.drop_succ_cons, List.drop_zero]
            repeat (go_big_quiet_step (fail))
            refine wpQuiet_nil ?_
            rintro _ ⟨n1, rfl⟩
            have hwc := wrote_calls W (wr.drewN n1) W.heap.size p2 q2 M2 s2 v2 u2 (hI.B.drewN n1) opv (Nat.le_refl _) (below_drewN hI.bel n1) b _ hop x2.1 x2.2 (by omega) (by omega)
            rw [E'.out] at hwc
            go_wp2_with (go_at_call 21; refine hwc.mono ?_; rintro e w2 hw; obtain ⟨v', u', rfl, hI2⟩ := (hI.drewN n1).two hw (n' := (j + 1) * 1048600) (by omega) (by omega); clear hw)
            go_roundw
            case rel => exact ⟨j + 1, _, _, _, _, _, _, by simp, by omega, hI2⟩
            case measure => simp [intOf]; omega
        · have cg0 : wr.cell? ⟨g, 0, none⟩ = some (.pointer (some ⟨p1, 0, none⟩)) := by rw [cell_of_row wr g 0 _ _ _ hI.G]; rfl
          have ck0 : wr.cell? ⟨kk, 0, none⟩ = some (.pointer (some ⟨q1, 0, none⟩)) := by rw [cell_of_row wr kk 0 _ _ _ hI.K]; rfl
          have cg1 : wr.cell? ⟨g, 1, none⟩ = some (.pointer (some ⟨p2, 0, none⟩)) := by rw [cell_of_row wr g 1 _ _ _ hI.G]; rfl
          have ck1 : wr.cell? ⟨kk, 1, none⟩ = some (.pointer (some ⟨q2, 0, none⟩)) := by rw [cell_of_row wr kk 1 _ _ _ hI.K]; rfl
          have sz := hI.bel.size
          go_wp2_with (first
            | (go_at_call_of 22 (Value.pointer (some (Addr.mk p1 0 none))); refine (asked_calls wr W.heap.size p1 q1 M1 s1 v1 u1 hI.A.B hI.A.R (by omega)).mono ?_; rintro e w2 ⟨rfl, k2⟩; have hB := hI.B.kept k2 (fun _ _ h => h); have cg1' := k2.cell cg1 (fun h => h); have ck1' := k2.cell ck1 (fun h => h); have k2b := k2.below sz (fun _ h => h.elim); have sz2 := k2.size)
            | (go_at_call_of 22 (Value.pointer (some (Addr.mk p2 0 none))); refine (asked_calls w2 W.heap.size p2 q2 M2 s2 v2 u2 hB.B hB.R (by omega)).mono ?_; rintro e w3 ⟨rfl, k3⟩; have k3b := k3.below (B := W.heap.size) (by omega) (fun _ h => h.elim)))
          go_ret
          exact ⟨rfl, (hI.bel.trans k2b).trans k3b⟩
end Go.Proofs.Ytgkbkkhlnidigaa
