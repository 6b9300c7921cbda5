/- The document's levels. -/
import Derived.Test.YtgajpekolamjbaaTxA
import Derived.Test.YtgajpekolamjbaaHeD
import Derived.Deep.CutBlock
set_option linter.unusedVariables false
set_option linter.unusedSimpArgs false
namespace Go.Tk
open Go Go.RowKit
/-- Levels of which the first k have the quad already. -/
def dN (L : List Qd) (i k : Nat) (m : Nat) : List Int := if m < k then levN L m (i + 1) else levN L m i
def dB (L : List Qd) (i k : Nat) (m : Nat) : List Bool := if m < k then levB L m (i + 1) else levB L m i
/-- The level's bits behind the close. -/
def bF (L : List Qd) (i k : Nat) : List Bool := if fK L i < k then clB (levB L k i) else levB L k i
theorem dN_at (L : List Qd) (i k : Nat) : dN L i k k = levN L k i := by unfold dN; rw [if_neg (by omega)]
theorem dB_at (L : List Qd) (i k : Nat) : dB L i k k = levB L k i := by unfold dB; rw [if_neg (by omega)]
theorem dN_skip (L : List Qd) (i k : Nat) (h : k < fK L i) : dN L i (k + 1) = dN L i k := by
  funext m
  unfold dN
  by_cases e : m = k
  · subst e; rw [if_pos (by omega), if_neg (by omega)]; simp only [levN]; rw [if_neg (by omega)]
  · by_cases h2 : m < k
    · rw [if_pos (by omega), if_pos h2]
    · rw [if_neg (by omega), if_neg h2]
theorem dB_skip (L : List Qd) (i k : Nat) (h : k < fK L i) : dB L i (k + 1) = dB L i k := by
  funext m
  unfold dB
  by_cases e : m = k
  · subst e; rw [if_pos (by omega), if_neg (by omega)]; simp only [levB]; rw [if_neg (by omega), if_neg (by omega)]
  · by_cases h2 : m < k
    · rw [if_pos (by omega), if_pos h2]
    · rw [if_neg (by omega), if_neg h2]
theorem dN_put (L : List Qd) (i k : Nat) (h : fK L i ≤ k) : uPd (dN L i k) k (levN L k i ++ [(L.getD i default).at k]) = dN L i (k + 1) := by
  funext m
  by_cases e : m = k
  · subst e; rw [uPd_same]; unfold dN; rw [if_pos (by omega)]; simp only [levN]; rw [if_pos h]
  · rw [uPd_other _ _ e]
    unfold dN
    by_cases h2 : m < k
    · rw [if_pos h2, if_pos (by omega)]
    · rw [if_neg h2, if_neg (by omega)]
theorem dB_put (L : List Qd) (i k : Nat) (h : fK L i ≤ k) (b : List Bool) : uPd (uPd (dB L i k) k b) k (bF L i k ++ [false]) = dB L i (k + 1) := by
  funext m
  by_cases e : m = k
  · subst e; rw [uPd_same]; unfold dB; rw [if_pos (by omega)]; simp only [levB]; unfold bF
    by_cases h2 : fK L i < m
    · rw [if_pos h2, if_pos h2]
    · rw [if_neg h2, if_neg h2, if_pos (by omega)]
  · rw [uPd_other _ _ e, uPd_other _ _ e]
    unfold dB
    by_cases h2 : m < k
    · rw [if_pos h2, if_pos (by omega)]
    · rw [if_neg h2, if_neg (by omega)]
theorem dN_zero (L : List Qd) (i : Nat) : dN L i 0 = fun m => levN L m i := by funext m; unfold dN; rw [if_neg (by omega)]
theorem dB_zero (L : List Qd) (i : Nat) : dB L i 0 = fun m => levB L m i := by funext m; unfold dB; rw [if_neg (by omega)]
theorem dN_end (L : List Qd) (i m : Nat) (h : m < 4) : levN L m (i + 1) = dN L i 4 m := by unfold dN; rw [if_pos h]
theorem dB_end (L : List Qd) (i m : Nat) (h : m < 4) : levB L m (i + 1) = dB L i 4 m := by unfold dB; rw [if_pos h]
theorem levN_pos (L : List Qd) (j : Nat) : ∀ i, 0 < i → 0 < (levN L j i).length
  | 0, h => by omega
  | i + 1, _ => by
    simp only [levN]
    by_cases h0 : i = 0
    · subst h0; rw [if_pos (by unfold fK; simp)]; simp
    · have := levN_pos L j i (by omega)
      split
      · simp
      · exact this
theorem bF_none {L : List Qd} {i k : Nat} (h : (levN L k i).length = 0) : bF L i k = levB L k i := by
  have : levB L k i = [] := List.eq_nil_of_length_eq_zero (by rw [levB_len, h])
  unfold bF
  rw [this]; split <;> rfl
/-- Levels of which the first j are closed. -/
def clE (L : List Qd) (i j : Nat) (m : Nat) : List Bool := if m < j then clB (levB L m i) else levB L m i
theorem clE_at (L : List Qd) (i j : Nat) : clE L i j j = levB L j i := by unfold clE; rw [if_neg (by omega)]
theorem clE_step (L : List Qd) (i j : Nat) : uPd (clE L i j) j (clB (levB L j i)) = clE L i (j + 1) := by
  funext m
  by_cases e : m = j
  · subst e; rw [uPd_same]; unfold clE; rw [if_pos (by omega)]
  · rw [uPd_other _ _ e]
    unfold clE
    by_cases h2 : m < j
    · rw [if_pos h2, if_pos (by omega)]
    · rw [if_neg h2, if_neg (by omega)]
theorem clE_none {L : List Qd} {i j : Nat} (h : (levN L j i).length = 0) : clE L i (j + 1) = clE L i j := by
  rw [← clE_step]
  have : levB L j i = [] := List.eq_nil_of_length_eq_zero (by rw [levB_len, h])
  funext m
  by_cases e : m = j
  · subst e; rw [uPd_same, clE_at, this]; rfl
  · rw [uPd_other _ _ e]
theorem clE_zero (L : List Qd) (i : Nat) : clE L i 0 = fun m => levB L m i := by funext m; unfold clE; rw [if_neg (by omega)]
theorem clE_end (L : List Qd) (m : Nat) (h : m < 4) : lastB L m = clE L L.length 4 m := by unfold lastB clE; rw [if_pos h]
theorem uPd_id {α : Type} (f : Nat → α) (i : Nat) (x : α) (h : x = f i) : uPd f i x = f := by
  subst h
  funext k
  by_cases e : k = i
  · subst e; rw [uPd_same]
  · rw [uPd_other _ _ e]
/-- append(v, y), v the call's own, as the operation's run. -/
theorem run_appJ1 {P : Program} {w : World} {o : Oper} {a : Act} (s x : Operand) (t : TypeId)
    (ho : o.op = .call { callee := .builtin .append, args := #[s, x], argTypes := #[t, t] })
    (k : IntKind) (base : Nat) (e : TypeId) (z : Value) (bytes : Nat) (ht : P.underlying t = some (.slice e)) (hinfo : (P.info? e).map (fun i => (i.zero, i.size, i.bytes)) = some (some z, 1, bytes)) (hzs : z.cells.size = 1)
    (v : Value) (zs : List Int) (hs : a.eval s = v) (hown : Ow k e base w v zs)
    (g : Nat) (y : Int) (hx : a.eval x = .slice (some ⟨g, 0, none⟩) 1 1) (hg : w.cell? ⟨g, 0, none⟩ = some (.int k y))
    (h63 : zs.length + 1 ≤ 9223372036854775807) (hbytes : (zs.length + 1) * bytes ≤ 140737488355328) (hbase : base ≤ w.heap.size) :
    ∃ v' w', (execOp a.eval o).run P w = .ok (.value v') w' ∧ (Ow k e base w' v' (zs ++ [y]) ∧ w.grownBy w' v.ownBlock ∧ OwnStep w v v') := by
  obtain ⟨i, hi, hz0, hz1, hz2⟩ := info_parts hinfo
  obtain ⟨v', w', hr, h2, h3, h4⟩ := run_app (P := P) w base t o.type e i z 1 bytes ht hi hz0 hz1 hz2 hzs (by decide) v zs.length (zs.map (Value.int k)) hown ⟨g, 0, none⟩ 1 1 [.int k y] (by simp) (by
    intro j u hu
    cases j with
    | zero => simp at hu; subst hu; simpa [Addr.add] using hg
    | succ j => simp at hu) (by
    intro u hu
    simp at hu
    subst hu; rfl) (by simpa [maxLen] using h63) hbytes hbase
  refine ⟨v', w', ?_, ?_, h3, h4⟩
  · simp [execOp, ho, resolve, invoke, builtin, hs, hx, hr, Result.andThen]
  · unfold Ow
    rw [List.length_append, List.map_append]
    exact h2
theorem slB_one {e : TypeId} (w : World) : SlB (w.alloc (.cells #[.bool false] e)) (some ⟨w.heap.size, 0, none⟩) 1 1 [false] :=
  ⟨rfl, Nat.le_refl _, by omega, fun i hi => ⟨w.heap.size, 0, rfl, by
    obtain rfl : i = 0 := by omega
    rw [Nat.zero_add, World.cell?_alloc_at _ _ _ _ rfl]; rfl⟩⟩
theorem wh_twoF {P : Program} {ops : Array Oper} {Q : Exit → Act → World → Prop} {md : Region.Mode} {S : World → Prop} (i j : Nat) {fuel : Nat} {listed : Array Bool} {a : Act} {w : World} (hr : Region.ready md ops listed = [i, j])
    (h1 : wpOp P ops Q i (fun a' w' => S w' ∧ wpAnyH P md ops Q S fuel (listed.setIfInBounds i true) a' w') a w) (h2 : wpOp P ops Q j (fun a' w' => S w' ∧ wpAnyH P md ops Q S fuel (listed.setIfInBounds j true) a' w') a w) : wpAnyH P md ops Q S (fuel + 1) listed a w :=
  wpAnyH_all hr (by simp) (by simp only [List.mem_cons, List.not_mem_nil, or_false]; rintro k (rfl | rfl); exact h1; exact h2)
theorem wo_step {P : Program} {ops : Array Oper} {Q : Exit → Act → World → Prop} (i : Nat) (v : Value) {K : Act → World → Prop} {o : Oper} {a : Act} {w w' : World} (hi : ops[i]? = some o) (hg : o.guard = none)
    (hy : (execOp a.eval o).run P w = .ok (.value v) w') (h : K (a.put o.dst v) w') : wpOp P ops Q i K a w := by
  unfold Go.wpOp
  simp only [hi, wanted_free (ops := ops) (x := a.tmps) hg, if_true, Oper.wp, hy, Oper.upon]
  exact .inl h
end Go.Tk
namespace Go.Proofs.Ytgajpekolamjbaa
open Go.RowKit Go.Tk
theorem Try.size8d : (Try.prog.info? 96).map (·.size) = some 8 := by kernel_rfl
section
variable {n0 : Nat} {w : World} {b : Nat} {vs : Nat → Value} {N : Nat → List Int} {B : Nat → List Bool}
theorem RowsD.num (h : RowsD n0 w b vs N B) {j : Nat} (hj : j < 4) : Ow .u64 61 n0 w (vs (2 * j)) (N j) := by
  have := h.own (2 * j) (by omega)
  rw [eD_even, cD_even, List.length_map] at this
  exact this
theorem RowsD.bit (h : RowsD n0 w b vs N B) {j : Nat} (hj : j < 4) : OwB 4 n0 w (vs (2 * j + 1)) (B j) := by
  have := h.own (2 * j + 1) (by omega)
  rw [eD_odd, cD_odd, List.length_map] at this
  exact this
theorem RowsD.appN (h : RowsD n0 w b vs N B) {j : Nat} (hj : j < 4) {w1 : World} {v' : Value} {x : List Int} (ho : Ow .u64 61 n0 w1 v' x) (hg : w.grownBy w1 (vs (2 * j)).ownBlock) (hs : OwnStep w (vs (2 * j)) v') :
    RowsD n0 (w1.setCell ⟨b, 2 * j, none⟩ v') b (uPd vs (2 * j) v') (uPd N j x) B := by
  have := h.app (i := 2 * j) (by omega) (v' := v') (cs := x.map (Value.int .u64)) (by rw [eD_even, List.length_map]; exact ho) hg hs
  rw [← cD_num] at this
  exact this
theorem RowsD.appB (h : RowsD n0 w b vs N B) {j : Nat} (hj : j < 4) {w1 : World} {v' : Value} {x : List Bool} (ho : OwB 4 n0 w1 v' x) (hg : w.grownBy w1 (vs (2 * j + 1)).ownBlock) (hs : OwnStep w (vs (2 * j + 1)) v') :
    RowsD n0 (w1.setCell ⟨b, 2 * j + 1, none⟩ v') b (uPd vs (2 * j + 1) v') N (uPd B j x) := by
  have := h.app (i := 2 * j + 1) (by omega) (v' := v') (cs := x.map Value.bool) (by rw [eD_odd, List.length_map]; exact ho) hg hs
  rw [← cD_bit] at this
  exact this
/-- The last one of a level is closed. -/
theorem RowsD.close (h : RowsD n0 w b vs N B) {j : Nat} (hj : j < 4) {m : Nat} (hm : (B j).length = m) (h0 : 0 < m) : ∃ g c, vs (2 * j + 1) = .slice (some ⟨g, 0, none⟩) m c ∧ m ≤ c ∧ c ≤ 9223372036854775807 ∧ (∃ u, w.cell? ⟨g, m - 1, none⟩ = some u) ∧ w.frozen? ⟨g, m - 1, none⟩ = false ∧
    RowsD n0 (w.setCell ⟨g, m - 1, none⟩ (.bool true)) b vs N (uPd B j (clB (B j))) ∧ n0 ≤ g := by
  have hcl : (cD N B (2 * j + 1)).length = m := by rw [cD_odd, List.length_map, hm]
  obtain ⟨g, c, hv, hle, hmx, hcell, hfz, hset, hng⟩ := R8.at h (i := 2 * j + 1) (by omega) (k := m - 1) (by omega)
  rw [hcl] at hv hle
  refine ⟨g, c, hv, hle, hmx, ⟨(cD N B (2 * j + 1))[m - 1]'(by omega), by rw [hcell]; exact List.getElem?_eq_getElem (by omega)⟩, hfz, ?_, hng⟩
  have := hset (.bool true)
  have e : (cD N B (2 * j + 1)).set (m - 1) (.bool true) = (clB (B j)).map Value.bool := by rw [cD_odd]; unfold clB; rw [hm, List.map_set]
  rw [e, ← cD_bit] at this
  exact this
theorem RowsD.to {N' : Nat → List Int} {B' : Nat → List Bool} (h : RowsD n0 w b vs N B) (h1 : ∀ m, m < 4 → N' m = N m) (h2 : ∀ m, m < 4 → B' m = B m) : RowsD n0 w b vs N' B' :=
  R8.congr h fun i hi => by unfold cD; rw [h1 _ (by omega), h2 _ (by omega)]
end
set_option maxRecDepth 100000 in
set_option maxHeartbeats 2000000 in
theorem rlevels_calls (w : World) (a : Option Addr) (n c : Nat) (L : List Qd) (h : SlQ w a n c L) (hR : Right L) :
    Calls Try.prog 46 #[.slice a n c] w fun e w' => ∃ vs : Nat → Value, e = .returned (.agg #[vs 0, vs 1, vs 2, vs 3, vs 4, vs 5, vs 6, vs 7]) ∧ (∃ b, RowsD w.heap.size w' b vs (fun j => levN L j n) (lastB L)) ∧ Below w.heap.size w w' := by
  have hle := h.le
  have hmx := h.max
  have hn20 : n ≤ 1048576 := by rw [← h.len]; exact hR.len
  have HS := Lib.hid h
  have HL := Lib.hid h.len
  have HR := Lib.hid hR
  have SZ := Lib.hid Try.sizeIds
  have S8 := Lib.hid Try.size8d
  have lev := fun j i (hi : i ≤ n) => levN_len L j i
  have LEV := Lib.hid lev
  clear h hR lev
  go_enter Try.func46, Try.ntmps46
  go_upto_region 2 with fail
  obtain ⟨w2, hw2⟩ : ∃ w2, w2 = (w.alloc (.cells nil8 96)).alloc (.cells nil8 96) := ⟨_, rfl⟩
  have hz2 : w2.heap.size = w.heap.size + 2 := by rw [hw2]; simp
  have hb2 : Below w.heap.size w w2 := by rw [hw2]; exact ((Below.refl _ w).alloc (Nat.le_refl _) _).alloc (by simp) _
  have hres : w2.heap[w.heap.size]? = some (.cells nil8 96 (0, 0)) := by rw [hw2]; show ((w.heap.push _).push _)[w.heap.size]? = _; rw [Array.getElem?_push, if_neg (by simp), Array.getElem?_push, if_pos rfl]
  have hst : RowsD (w.heap.size + 1) w2 (w.heap.size + 1) (fun _ => .slice none 0 0) (fun j => levN L j 0) (fun j => levB L j 0) := by
    refine R8.start ?_ (Nat.le_refl _) (fun i _ => ?_)
    · rw [hw2]; show ((w.heap.push _).push _)[w.heap.size + 1]? = _; rw [Array.getElem?_push, if_pos (by simp)]
    · unfold cD; simp only [levN, levB]; split <;> rfl
  change Code.wp _ _ _ _ ((w.alloc (.cells nil8 96)).alloc (.cells nil8 96))
  rw [← hw2]
  have HB2 := Lib.hid hb2
  have HRES := Lib.hid hres
  have HST := Lib.hid hst
  clear hw2 hb2 hres hst
  go_wp2_with fail
  go_loopw [4] (fun iv wr => ∃ (i : Nat) (vs : Nat → Value), iv = .int .i64 (i : Nat) ∧ i ≤ n ∧ RowsD (w.heap.size + 1) wr (w.heap.size + 1) vs (fun j => levN L j i) (fun j => levB L j i) ∧ Below (w.heap.size + 1) w2 wr) (fun iv _ => n - (intOf iv).toNat)
  case atStart => exact ⟨0, _, rfl, Nat.zero_le _, HST.out, Below.refl _ _⟩
  case round =>
    obtain ⟨i, vs, rfl, hi, hrow, hbw⟩ := hrel
    have hzw := hbw.size
    have HROW := Lib.hid hrow
    have HB := Lib.hid hbw
    clear hrow hbw
    by_cases hlt : i < n
    · obtain ⟨kN, hkN⟩ : ∃ kN, kN = fK L i := ⟨_, rfl⟩
      have hk4 : kN < 4 := by rw [hkN]; exact HR.out.fK_lt (by rw [HL.out]; exact hlt)
      have HK := Lib.hid hkN
      obtain ⟨b, o, rfl, hr0⟩ := HS.out.cell i hlt
      obtain ⟨q, hq⟩ : ∃ q, q = L.getD i default := ⟨_, rfl⟩
      have hokq := okQ_at (HR.out.ok i (by rw [HL.out]; exact hlt))
      rw [← hq] at hokq hr0
      have HQ := Lib.hid hq
      have HR0 := Lib.hid hr0
      have HOK := Lib.hid hokq
      have hrow0 : RowsD (w.heap.size + 1) wr (w.heap.size + 1) vs (dN L i 0) (dB L i 0) := by rw [dN_zero, dB_zero]; exact HROW.out
      have HROW0 := Lib.hid hrow0
      clear hkN hq hr0 hokq hrow0 HROW
      rename World => w3
      go_wp2_with fail
      go_loopw [5, 6] (fun sv kv wx => ∃ (k : Nat) (vx : Nat → Value), kv = .int .i64 (k : Nat) ∧ sv = .bool (decide (0 < i ∧ k ≤ kN)) ∧ k ≤ 4 ∧ RowsD (w.heap.size + 1) wx (w.heap.size + 1) vx (dN L i k) (dB L i k) ∧ Below (w.heap.size + 1) w2 wx) (fun _ kv _ => 4 - (intOf kv).toNat)
      case atStart => exact ⟨0, vs, rfl, by simp, Nat.zero_le _, HROW0.out, HB.out⟩
      case round =>
        rename World => wx
        obtain ⟨k, vx, rfl, rfl, hk, hrx, hbx⟩ := hrel
        have HRX := Lib.hid hrx
        have HBX := Lib.hid hbx
        have hzx := hbx.size
        clear hrx hbx HB HROW0
        by_cases hlk : k < 4
        · obtain ⟨s, hs⟩ : ∃ s, s = decide (0 < i ∧ k ≤ kN) := ⟨_, rfl⟩
          obtain ⟨s2, hs2⟩ : ∃ s2, s2 = decide (0 < i ∧ k + 1 ≤ kN) := ⟨_, rfl⟩
          rw [← hs]
          have HSS := Lib.hid hs
          have HS2 := Lib.hid hs2
          clear hs hs2
          go_upto_region 10 with fail
          go_cut [5] from 21 to 41 (fun s5 wy => s5 = .bool s2 ∧ ∃ m, wy = wx.drewN m)
          case first =>
            cases s with
            | false =>
              have h2 : s2 = false := by
                rw [HS2.out]
                have := HSS.out
                have h1 : ¬ (0 < i ∧ k ≤ kN) := of_decide_eq_false this.symm
                exact decide_eq_false (fun h => h1 ⟨h.1, by omega⟩)
              subst h2
              go_quiet (fail)
              go_wp2_with fail
              go_meet
              exact ⟨rfl, _, rfl⟩
            | true =>
              have h1 : 0 < i ∧ k ≤ kN := of_decide_eq_true HSS.out.symm
              have hbw : Below w.heap.size w wx := HB2.out.trans (HBX.out.mono (by omega : w.heap.size ≤ w.heap.size + 1))
              have hr1 := range_keep HR0.out hbw
              obtain ⟨b', o', he', hr2⟩ := (HS.out.keep hbw).cell (i - 1) (by omega)
              have hea : (⟨b, o, none⟩ : Addr) = ⟨b', o', none⟩ := Option.some.inj he'
              injection hea with e1 e2
              subst e1 e2
              obtain ⟨p, hp⟩ : ∃ p, p = L.getD (i - 1) default := ⟨_, rfl⟩
              rw [← hp] at hr2
              have hkk : kN = fk p q := by rw [HK.out]; unfold fK; rw [if_neg (by omega), ← hp, ← HQ.out]
              obtain ⟨i1, hi1⟩ : ∃ i1 : Nat, i1 = i - 1 := ⟨_, rfl⟩
              rw [← hi1] at hr2
              have hi5 : (i : Int) - 1 = (i1 : Int) := by omega
              have hi6 : i1 < n := by omega
              have hi7 : IntKind.i64.wrap (i1 : Int) = (i1 : Int) := by rw [IntKind.wrap_i64]; omega
              have q1 := qcs_at hr1 k hlk
              have p1 := qcs_at hr2 k hlk
              by_cases hkl : k < kN
              · have heq : p.at k = q.at k := fk_eq (by rw [← hkk]; exact hkl)
                rw [heq] at p1
                obtain ⟨x, hx⟩ : ∃ x, x = q.at k := ⟨_, rfl⟩
                rw [← hx] at p1 q1
                have h2 : s2 = true := by rw [HS2.out]; exact decide_eq_true ⟨h1.1, by omega⟩
                subst h2
                clear hx heq hp hkk hr1 hr2 hi1 h1 he' hkl
                go_quiet (fail)
                go_wp2_with fail
                go_meet
                exact ⟨rfl, _, rfl⟩
              · have hkN : k = kN := by omega
                have hne : q.at k ≠ p.at k := by
                  have := fk_ne (p := p) (q := q) (by rw [← hkk]; exact hk4)
                  rw [← hkk, ← hkN] at this
                  exact fun e => this e.symm
                have e1 : (q.at k == p.at k) = false := by simp; exact hne
                obtain ⟨x, hx⟩ : ∃ x, x = q.at k := ⟨_, rfl⟩
                obtain ⟨y, hy⟩ : ∃ y, y = p.at k := ⟨_, rfl⟩
                rw [← hx] at q1 e1
                rw [← hy] at p1 e1
                have h2 : s2 = false := by rw [HS2.out]; exact decide_eq_false (fun h => by omega)
                subst h2
                clear hx hy hne hp hkk hr1 hr2 hi1 h1 he' hkl hkN
                go_quiet (fail)
                go_wp2_with fail
                go_meet
                exact ⟨rfl, _, rfl⟩
          case rest =>
            obtain ⟨rfl, m5, rfl⟩ := hcut
            have hrx4 := R8.drewN HRX.out m5
            have hbx4 : Below (w.heap.size + 1) w2 (wx.drewN m5) := below_drewN HBX.out m5
            generalize wx.drewN m5 = w4 at hrx4 hbx4 ⊢
            have hz4 := hbx4.size
            have HRX4 := Lib.hid hrx4
            have HBX4 := Lib.hid hbx4
            clear hrx4 hbx4 HRX HBX
            cases s2 with
            | true =>
              have h1 : 0 < i ∧ k + 1 ≤ kN := of_decide_eq_true HS2.out.symm
              have hrx5 := HRX4.out
              rw [← dN_skip L i k (by rw [← HK.out]; omega), ← dB_skip L i k (by rw [← HK.out]; omega)] at hrx5
              have HRX5 := Lib.hid hrx5
              clear h1 hrx5
              go_wp2_with fail
              exact ⟨⟨k + 1, vx, by go_num, by rw [← HS2.out], by omega, HRX5.out, HBX4.out⟩, by simp [intOf]; omega⟩
            | false =>
              have hkk : kN ≤ k := by
                have h1 : ¬ (0 < i ∧ k + 1 ≤ kN) := of_decide_eq_false HS2.out.symm
                by_cases h0 : 0 < i
                · omega
                · have : kN = 0 := by rw [HK.out]; unfold fK; rw [if_pos (by omega)]
                  omega
              obtain ⟨m, hm⟩ : ∃ m, m = (levN L k i).length := ⟨_, rfl⟩
              have hm2 : m ≤ 2000000 := by rw [hm]; have := LEV.out k i hi; omega
              have hnum := RowsD.num HRX4.out hlk
              rw [dN_at] at hnum
              obtain ⟨na, nc, hnv, _, _⟩ := hnum.sl
              rw [← hm] at hnv
              rw [hnv] at hnum
              have c0 : w4.cell? ⟨w.heap.size + 1, k * 2, none⟩ = some (.slice na m nc) := by rw [Nat.mul_comm, HRX4.out.cell (by omega), hnv]
              have HM := Lib.hid hm
              have HNV := Lib.hid hnv
              have HNUM := Lib.hid hnum
              clear hm hnv hnum
              obtain ⟨cl, hcl⟩ : ∃ cl, cl = (decide (0 < m) && !s) := ⟨_, rfl⟩
              have HCL := Lib.hid hcl
              clear hcl
              go_upto_region 14 with fail
              go_cut [55] from 50 to 55 (fun s55 wy => s55 = .bool cl ∧ wy = w4)
              case first =>
                by_cases hm0 : 0 < m
                · have e0 : decide (0 < m) = true := decide_eq_true hm0
                  have hc := HCL.out
                  rw [e0, Bool.true_and] at hc
                  subst hc
                  clear HCL
                  cases s with
                  | false =>
                    go_wp2_with fail
                    go_meet
                    exact ⟨rfl, rfl⟩
                  | true =>
                    go_wp2_with fail
                    go_meet
                    exact ⟨rfl, rfl⟩
                · have e0 : decide (0 < m) = false := decide_eq_false hm0
                  have hc := HCL.out
                  rw [e0, Bool.false_and] at hc
                  subst hc
                  clear HCL
                  go_wp2_with fail
                  go_meet
                  exact ⟨rfl, rfl⟩
              case rest =>
                obtain ⟨rfl, rfl⟩ := hcut
                go_upto_if 55 with fail
                go_cut [] from 56 to 62 (fun wy => RowsD (w.heap.size + 1) wy (w.heap.size + 1) vx (dN L i k) (uPd (dB L i k) k (bF L i k)) ∧ Below (w.heap.size + 1) w2 wy)
                case first =>
                  cases cl with
                  | false =>
                    rename World => wy
                    have hbf : bF L i k = dB L i k k := by
                      rw [dB_at]
                      by_cases hm0 : 0 < m
                      · have hc := HCL.out
                        rw [decide_eq_true hm0, Bool.true_and] at hc
                        have hs : s = true := by cases s with
                          | true => rfl
                          | false => cases hc
                        rw [hs] at HSS
                        have := of_decide_eq_true HSS.out.symm
                        unfold bF; rw [if_neg (by rw [← HK.out]; omega)]
                      · exact bF_none (by rw [← HM.out]; omega)
                    have hr : RowsD (w.heap.size + 1) wy (w.heap.size + 1) vx (dN L i k) (uPd (dB L i k) k (bF L i k)) := by rw [uPd_id _ _ _ hbf]; exact HRX4.out
                    have HR4 := Lib.hid hr
                    clear hbf hr
                    go_wp2_with fail
                    go_meet
                    exact ⟨HR4.out, HBX4.out⟩
                  | true =>
                    have hc := HCL.out
                    rename World => wy
                    have hm0 : 0 < m := by
                      by_cases h : 0 < m
                      · exact h
                      · rw [decide_eq_false h, Bool.false_and] at hc; cases hc
                    have hs : s = false := by
                      cases s with
                      | false => rfl
                      | true => rw [decide_eq_true hm0] at hc; cases hc
                    have hi0 : 0 < i := by
                      by_cases h : 0 < i
                      · exact h
                      · have : i = 0 := by omega
                        subst this
                        have := HM.out
                        simp only [levN] at this
                        simp at this
                        omega
                    have hkk2 : kN < k := by
                      rw [hs] at HSS
                      have h1 : ¬ (0 < i ∧ k ≤ kN) := of_decide_eq_false HSS.out.symm
                      omega
                    have hbf : bF L i k = clB (dB L i k k) := by rw [dB_at]; unfold bF; rw [if_pos (by rw [← HK.out]; exact hkk2)]
                    have hlb : (dB L i k k).length = m := by rw [dB_at, levB_len, ← HM.out]
                    obtain ⟨g, gc, hgv, hle2, hmx2, ⟨gu, hgcell⟩, hgf, hgr, hgn⟩ := RowsD.close HRX4.out hlk hlb hm0
                    rw [← hbf] at hgr
                    have c1 : wy.cell? ⟨w.heap.size + 1, k * 2 + 1, none⟩ = some (.slice (some ⟨g, 0, none⟩) m gc) := by rw [Nat.mul_comm, HRX4.out.cell (by omega), hgv]
                    obtain ⟨m1, hm1⟩ : ∃ m1 : Nat, m1 = m - 1 := ⟨_, rfl⟩
                    rw [← hm1] at hgcell hgf hgr
                    have hm5 : (m : Int) - 1 = (m1 : Int) := by omega
                    have hm6 : m1 < m := by omega
                    have hm7 : IntKind.i64.wrap (m1 : Int) = (m1 : Int) := by rw [IntKind.wrap_i64]; omega
                    have HGR := Lib.hid hgr
                    have HGB := Lib.hid (HBX4.out.setCell (p := ⟨g, m1, none⟩) hgn (.bool true))
                    clear hc hs hi0 hkk2 hbf hlb hgv hgr hm1
                    go_wp2_with fail
                    go_meet
                    exact ⟨HGR.out, HGB.out⟩
                case rest =>
                  obtain ⟨hr5, hb5⟩ := hcut
                  rename World => wy
                  have hz5 := hb5.size
                  have hnum5 := RowsD.num hr5 hlk
                  rw [dN_at, HNV.out] at hnum5
                  have hbel : ∀ X, Below (w.heap.size + 1) wy X → Below w.heap.size w X := fun X h => HB2.out.trans ((hb5.trans h).mono (by omega : w.heap.size ≤ w.heap.size + 1))
                  have c5 : ∀ X, Kept (fun g => (vx (2 * k)).ownBlock = some g ∨ wy.heap.size ≤ g) wy X → X.cell? ⟨w.heap.size + 1, k * 2, none⟩ = some (.slice na m nc) := fun X h => by
                    refine h.cell (p := ⟨w.heap.size + 1, k * 2, none⟩) ?_ ?_
                    · rw [Nat.mul_comm, hr5.cell (by omega), HNV.out]
                    · rintro (e | e)
                      · exact hr5.ne (2 * k) (by omega) e
                      · have e : wy.heap.size ≤ w.heap.size + 1 := e; have := hr5.lt; omega
                  obtain ⟨x, hx⟩ : ∃ x, x = q.at k := ⟨_, rfl⟩
                  have hx0 := (HOK.out k).1
                  have hx1 := (HOK.out k).2
                  have hxw : IntKind.u64.wrap x = x := by rw [IntKind.wrap_u64]; rw [hx]; omega
                  have hq5 : ∀ X, Below w.heap.size w X → X.cell? ⟨b, o + i * 4 + k, none⟩ = some (.int .i64 x) := fun X h => by rw [hx]; exact qcs_at (range_keep HR0.out h) k hlk
                  have fin : ∀ V X v', V = wy.drewN 1 → Ow .u64 61 (w.heap.size + 1) X v' (levN L k i ++ [x]) → (V.alloc (.cells #[.int .u64 x] 61)).grownBy X (Value.slice na m nc).ownBlock → OwnStep (V.alloc (.cells #[.int .u64 x] 61)) (.slice na m nc) v' →
                      X.cell? ⟨w.heap.size + 1, k * 2, none⟩ = some (.slice na m nc) ∧ X.frozen? ⟨w.heap.size + 1, k * 2, none⟩ = false ∧ Below w.heap.size w X ∧ Below w.heap.size w (X.setCell ⟨w.heap.size + 1, k * 2, none⟩ v') ∧ (∃ vy, RowsD (w.heap.size + 1) (X.setCell ⟨w.heap.size + 1, k * 2, none⟩ v') (w.heap.size + 1) vy (dN L i (k + 1)) (uPd (dB L i k) k (bF L i k))) ∧ Below (w.heap.size + 1) w2 (X.setCell ⟨w.heap.size + 1, k * 2, none⟩ v') := by
                    intro V X v' hV how hg hs
                    subst hV
                    have ha := R8.alloc (R8.drewN hr5 1) (.cells #[.int .u64 x] 61)
                    have hb6 : Below (w.heap.size + 1) w2 ((wy.drewN 1).alloc (.cells #[.int .u64 x] 61)) := (below_drewN hb5 1).alloc (by show _ ≤ wy.heap.size; omega) _
                    rw [← HNV.out] at hg hs
                    have hb7 : Below (w.heap.size + 1) w2 X := hb6.grown hg (by simp [World.drewN]; omega) (fun g hgv => (ha.own_lt (i := 2 * k) (by omega) g hgv).1)
                    have hb8 : Below (w.heap.size + 1) w2 (X.setCell ⟨w.heap.size + 1, k * 2, none⟩ v') := hb7.setCell (Nat.le_refl _) _
                    have hblk : X.heap[w.heap.size + 1]? = ((wy.drewN 1).alloc (.cells #[.int .u64 x] 61)).heap[w.heap.size + 1]? := hg.block _ ha.lt (fun e => ha.ne (2 * k) (by omega) e.symm)
                    have hap := RowsD.appN ha hlk how hg hs
                    rw [hx, HQ.out, dN_put L i k (by rw [← HK.out]; exact hkk)] at hap
                    refine ⟨?_, frozen_of_row X _ _ _ _ (hblk.trans ha.blk), HB2.out.trans (hb7.mono (by omega)), HB2.out.trans (hb8.mono (by omega)), ⟨_, by rw [Nat.mul_comm]; exact hap⟩, hb8⟩
                    rw [Nat.mul_comm, ← HNV.out]
                    exact (World.cell?_of_block hblk).trans (ha.cell (by omega))
                  have C5 := Lib.hid c5
                  have Q5 := Lib.hid hq5
                  have HBEL := Lib.hid hbel
                  have HNUM5 := Lib.hid hnum5
                  have FIN := Lib.hid fin
                  clear c5 hq5 hbel hnum5 fin hr5 hb5 hx hx0 hx1 HNUM c0
                  go_upto_region 16 with fail
                  have hSD : ∀ X, Below (w.heap.size + 1) wy X → Below w.heap.size w X := HBEL.out
                  have b0 : Below (w.heap.size + 1) wy wy.drew := below_drewN (Below.refl _ wy) 1
                  refine wh_start (S := fun w' => Below w.heap.size w w') 17 rfl (by kernel_rfl) ?_
                  have hVd : wy.drew = wy.drewN 1 := rfl
                  generalize wy.drew = V at b0 hVd ⊢
                  have kV : Kept (fun g => (vx (2 * k)).ownBlock = some g ∨ wy.heap.size ≤ g) wy V := by rw [hVd]; exact (Kept.refl _ wy).drewN 1
                  have zV : V.heap.size = wy.heap.size := by rw [hVd]; rfl
                  have bV := HBEL.out V b0
                  have kA : Kept (fun g => (vx (2 * k)).ownBlock = some g ∨ wy.heap.size ≤ g) wy (V.alloc (.cells #[.int .u64 x] 61)) := kV.alloc _
                  have bA : Below w.heap.size w (V.alloc (.cells #[.int .u64 x] 61)) := bV.alloc (by omega) _
                  refine wh_take 0 (.pointer (some ⟨w.heap.size + 1, k * 2, none⟩)) rfl rfl (by kernel_rfl) (by kernel_rfl) (by kernel_rfl) (fun _ _ _ h => h) bV (fun w' h => by simp [go_sem]) ?_
                  refine wh_take 1 (.pointer (some ⟨w.heap.size + 1, k * 2, none⟩)) rfl rfl (by kernel_rfl) (by kernel_rfl) (by kernel_rfl) (fun _ _ _ h => h) bV (fun w' h => by simp [go_sem]) ?_
                  refine wh_take 2 (.pointer (some ⟨w.heap.size + 1, k * 2, none⟩)) rfl rfl (by kernel_rfl) (by kernel_rfl) (by kernel_rfl) (fun _ _ _ h => h) bV (fun w' h => by simp [go_sem]) ?_
                  refine wh_take 3 (.pointer (some ⟨w.heap.size + 1, k * 2, none⟩)) rfl rfl (by kernel_rfl) (by kernel_rfl) (by kernel_rfl) (fun _ _ _ h => h) bV (fun w' h => by simp [go_sem]) ?_
                  refine wh_take 5 (.slice (some ⟨b, o, none⟩) n c) rfl rfl (by kernel_rfl) (by kernel_rfl) (by kernel_rfl) (fun _ _ _ h => h) bV (fun w' h => by simp [go_sem]) ?_
                  refine wh_take 6 (.int .i64 (i : Nat)) rfl rfl (by kernel_rfl) (by kernel_rfl) (by kernel_rfl) (fun _ _ _ h => h) bV (fun w' h => by simp [go_sem]) ?_
                  refine wh_take 7 (.int .i64 (k : Nat)) rfl rfl (by kernel_rfl) (by kernel_rfl) (by kernel_rfl) (fun _ _ _ h => h) bV (fun w' h => by simp [go_sem]) ?_
                  refine wh_take 8 (.pointer (some ⟨b, o + i * 4, none⟩)) rfl rfl (by kernel_rfl) (by kernel_rfl) (by kernel_rfl) (fun _ _ _ h => h) bV (fun w' h => by simp [go_sem, hlt]) ?_
                  refine wh_take 9 (.pointer (some ⟨b, o + i * 4 + k, none⟩)) rfl rfl (by kernel_rfl) (by kernel_rfl) (by kernel_rfl) (fun _ _ _ h => h) bV (fun w' h => by simp [go_sem, hlk]; intro h4; omega) ?_
                  refine wh_take 10 (.int .i64 x) rfl rfl (by kernel_rfl) (by kernel_rfl) (by kernel_rfl) (fun _ _ _ h => h) bV (fun w' h => by have hc := Q5.out w' h; simp [go_sem, hc]) ?_
                  refine wh_take 11 (.int .u64 x) rfl rfl (by kernel_rfl) (by kernel_rfl) (by kernel_rfl) (fun _ _ _ h => h) bV (fun w' h => by simp [go_sem, hxw]) ?_
                  have kV0 : Kept (fun _ => False) wy V := by rw [hVd]; exact (Kept.refl _ wy).drewN 1
                  refine wh_twoF 4 12 (by kernel_rfl) ?_ ?_
                  · refine wo_step 4 (.slice na m nc) (w' := V) rfl rfl (by have hc := C5.out V kV; simp [go_sem, hc]) ⟨bV, ?_⟩
                    refine wh_step 12 (.slice (some ⟨V.heap.size, 0, none⟩) 1 1) (w' := V.alloc (.cells #[.int .u64 x] 61)) rfl rfl (by kernel_rfl) (by simp [go_sem]) bA ?_
                    refine wh_ex 13 (fun v' w' => Ow .u64 61 (w.heap.size + 1) w' v' (levN L k i ++ [x]) ∧ (V.alloc (.cells #[.int .u64 x] 61)).grownBy w' (Value.slice na m nc).ownBlock ∧ OwnStep (V.alloc (.cells #[.int .u64 x] 61)) (.slice na m nc) v') rfl rfl (by kernel_rfl)
                      (run_appJ1 (.tmp 67) (.tmp 75) 81 rfl .u64 (w.heap.size + 1) 61 _ 8 Try.underlying81 Try.infoU64 rfl (.slice na m nc) (levN L k i) (by simp [go_sem]) ((HNUM5.out.kept2 kV0 (fun _ _ h => h)).alloc _) V.heap.size x (by simp [go_sem]) (World.cell?_alloc_at _ _ _ _ rfl) (by have := HM.out; omega) (by have := HM.out; omega) (by simp; omega))
                      (fun v' w' h => (FIN.out V w' v' hVd h.1 h.2.1 h.2.2).2.2.1) ?_
                    rintro v' w' ⟨how, hg, hst⟩
                    obtain ⟨cx, fx, bx1, bx2, hry, hby⟩ := FIN.out V w' v' hVd how hg hst
                    obtain ⟨a3, k3, hv3, _, _⟩ := how.sl
                    obtain ⟨l3, hl3⟩ : ∃ l3, l3 = (levN L k i ++ [x]).length := ⟨_, rfl⟩
                    rw [← hl3] at hv3
                    subst hv3
                    refine wh_step 14 (.pointer (some ⟨w.heap.size + 1, k * 2, none⟩)) (w' := w') rfl rfl (by kernel_rfl) (by simp [go_sem]) bx1 ?_
                    refine wh_step 15 (.pointer (some ⟨w.heap.size + 1, k * 2, none⟩)) (w' := w') rfl rfl (by kernel_rfl) (by simp [go_sem]) bx1 ?_
                    refine wh_skip 16 (w' := w'.setCell ⟨w.heap.size + 1, k * 2, none⟩ (.slice a3 l3 k3)) rfl rfl (by kernel_rfl) (by simp [go_sem, cx, fx]) bx2 ?_
                    refine wpAnyH_done (by kernel_rfl) ?_ 0
                    have HRY := Lib.hid hry
                    have HBY := Lib.hid hby
                    clear how hg hst hry hby cx fx bx1 bx2 hl3
                    obtain ⟨vy, hry⟩ := HRY.out
                    generalize w'.setCell ⟨w.heap.size + 1, k * 2, none⟩ (.slice a3 l3 k3) = w6 at hry HBY ⊢
                    have hz6 := HBY.out.size
                    have hbit := RowsD.bit hry hlk
                    rw [uPd_same] at hbit
                    obtain ⟨ba, bc, hbv, _, _⟩ := hbit.sl
                    have hbl : (bF L i k).length = m := by
                      unfold bF
                      split
                      · rw [clB_len, levB_len, ← HM.out]
                      · rw [levB_len, ← HM.out]
                    rw [hbl] at hbv
                    rw [hbv] at hbit
                    have c6 : w6.cell? ⟨w.heap.size + 1, k * 2 + 1, none⟩ = some (.slice ba m bc) := by rw [Nat.mul_comm, hry.cell (by omega), hbv]
                    have fin2 : ∀ X v', OwB 4 (w.heap.size + 1) X v' (bF L i k ++ [false]) → (w6.alloc (.cells #[.bool false] 4)).grownBy X (Value.slice ba m bc).ownBlock → OwnStep (w6.alloc (.cells #[.bool false] 4)) (.slice ba m bc) v' →
                        (∃ u, X.cell? ⟨w.heap.size + 1, k * 2 + 1, none⟩ = some u) ∧ X.frozen? ⟨w.heap.size + 1, k * 2 + 1, none⟩ = false ∧ (∃ vy, RowsD (w.heap.size + 1) (X.setCell ⟨w.heap.size + 1, k * 2 + 1, none⟩ v') (w.heap.size + 1) vy (dN L i (k + 1)) (dB L i (k + 1))) ∧ Below (w.heap.size + 1) w2 (X.setCell ⟨w.heap.size + 1, k * 2 + 1, none⟩ v') := by
                      intro X v' how hg hs
                      have ha := R8.alloc hry (.cells #[.bool false] 4)
                      rw [← hbv] at hg hs
                      have hb6 : Below (w.heap.size + 1) w2 (w6.alloc (.cells #[.bool false] 4)) := HBY.out.alloc (by omega) _
                      have hb7 : Below (w.heap.size + 1) w2 X := hb6.grown hg (by simp; omega) (fun g hgv => (ha.own_lt (i := 2 * k + 1) (by omega) g hgv).1)
                      have hblk : X.heap[w.heap.size + 1]? = (w6.alloc (.cells #[.bool false] 4)).heap[w.heap.size + 1]? := hg.block _ ha.lt (fun e => ha.ne (2 * k + 1) (by omega) e.symm)
                      have hap := RowsD.appB ha hlk how hg hs
                      rw [dB_put L i k (by rw [← HK.out]; exact hkk)] at hap
                      refine ⟨⟨vy (2 * k + 1), ?_⟩, frozen_of_row X _ _ _ _ (hblk.trans ha.blk), ⟨_, by rw [Nat.mul_comm]; exact hap⟩, hb7.setCell (Nat.le_refl _) _⟩
                      rw [Nat.mul_comm]
                      exact (World.cell?_of_block hblk).trans (ha.cell (by omega))
                    have FIN2 := Lib.hid fin2
                    have HBIT := Lib.hid hbit
                    have HBL := Lib.hid hbl
                    clear fin2 hbit hbl hry HRY hbv
                    go_wp2_with (at_builtin; (refine wpList_appB rfl (.tmp 83) (.tmp 84) _ rfl (w.heap.size + 1) 4 _ 1 Try.underlying36 infoB rfl _ _ rfl (HBIT.out.alloc _) (some ⟨w6.heap.size, 0, none⟩) 1 1 [false] rfl (slB_one w6) (fun e => by cases e) (by have := HBL.out; omega) (by have := HBL.out; omega) (by simp; omega) ?_; intro v8 w8 ow8 hg8 st8; obtain ⟨⟨u8, cu8⟩, fu8, hr8, hb8⟩ := FIN2.out w8 v8 ow8 hg8 st8; obtain ⟨a8, k8, hv8, _, _⟩ := ow8.sl; obtain ⟨l8, hl8⟩ : ∃ l8, l8 = (bF L i k ++ [false]).length := ⟨_, rfl⟩; rw [← hl8] at hv8; subst hv8; (have HR8 := Lib.hid hr8); (have HB8 := Lib.hid hb8); clear ow8 hg8 st8 hr8 hb8 hl8))
                    go_roundw
                    case rel => obtain ⟨vz, hr8⟩ := HR8.out; exact ⟨k + 1, vz, by go_num, by rw [← HS2.out], by omega, hr8, HB8.out⟩
                    case measure => simp [intOf]; omega
                  · refine wo_step 12 (.slice (some ⟨V.heap.size, 0, none⟩) 1 1) (w' := V.alloc (.cells #[.int .u64 x] 61)) rfl rfl (by simp [go_sem]) ⟨bA, ?_⟩
                    refine wh_step 4 (.slice na m nc) (w' := V.alloc (.cells #[.int .u64 x] 61)) rfl rfl (by kernel_rfl) (by have hc := C5.out _ kA; simp [go_sem, hc]) bA ?_
                    refine wh_ex 13 (fun v' w' => Ow .u64 61 (w.heap.size + 1) w' v' (levN L k i ++ [x]) ∧ (V.alloc (.cells #[.int .u64 x] 61)).grownBy w' (Value.slice na m nc).ownBlock ∧ OwnStep (V.alloc (.cells #[.int .u64 x] 61)) (.slice na m nc) v') rfl rfl (by kernel_rfl)
                      (run_appJ1 (.tmp 67) (.tmp 75) 81 rfl .u64 (w.heap.size + 1) 61 _ 8 Try.underlying81 Try.infoU64 rfl (.slice na m nc) (levN L k i) (by simp [go_sem]) ((HNUM5.out.kept2 kV0 (fun _ _ h => h)).alloc _) V.heap.size x (by simp [go_sem]) (World.cell?_alloc_at _ _ _ _ rfl) (by have := HM.out; omega) (by have := HM.out; omega) (by simp; omega))
                      (fun v' w' h => (FIN.out V w' v' hVd h.1 h.2.1 h.2.2).2.2.1) ?_
                    rintro v' w' ⟨how, hg, hst⟩
                    obtain ⟨cx, fx, bx1, bx2, hry, hby⟩ := FIN.out V w' v' hVd how hg hst
                    obtain ⟨a3, k3, hv3, _, _⟩ := how.sl
                    obtain ⟨l3, hl3⟩ : ∃ l3, l3 = (levN L k i ++ [x]).length := ⟨_, rfl⟩
                    rw [← hl3] at hv3
                    subst hv3
                    refine wh_step 14 (.pointer (some ⟨w.heap.size + 1, k * 2, none⟩)) (w' := w') rfl rfl (by kernel_rfl) (by simp [go_sem]) bx1 ?_
                    refine wh_step 15 (.pointer (some ⟨w.heap.size + 1, k * 2, none⟩)) (w' := w') rfl rfl (by kernel_rfl) (by simp [go_sem]) bx1 ?_
                    refine wh_skip 16 (w' := w'.setCell ⟨w.heap.size + 1, k * 2, none⟩ (.slice a3 l3 k3)) rfl rfl (by kernel_rfl) (by simp [go_sem, cx, fx]) bx2 ?_
                    refine wpAnyH_done (by kernel_rfl) ?_ 0
                    have HRY := Lib.hid hry
                    have HBY := Lib.hid hby
                    clear how hg hst hry hby cx fx bx1 bx2 hl3
                    obtain ⟨vy, hry⟩ := HRY.out
                    generalize w'.setCell ⟨w.heap.size + 1, k * 2, none⟩ (.slice a3 l3 k3) = w6 at hry HBY ⊢
                    have hz6 := HBY.out.size
                    have hbit := RowsD.bit hry hlk
                    rw [uPd_same] at hbit
                    obtain ⟨ba, bc, hbv, _, _⟩ := hbit.sl
                    have hbl : (bF L i k).length = m := by
                      unfold bF
                      split
                      · rw [clB_len, levB_len, ← HM.out]
                      · rw [levB_len, ← HM.out]
                    rw [hbl] at hbv
                    rw [hbv] at hbit
                    have c6 : w6.cell? ⟨w.heap.size + 1, k * 2 + 1, none⟩ = some (.slice ba m bc) := by rw [Nat.mul_comm, hry.cell (by omega), hbv]
                    have fin2 : ∀ X v', OwB 4 (w.heap.size + 1) X v' (bF L i k ++ [false]) → (w6.alloc (.cells #[.bool false] 4)).grownBy X (Value.slice ba m bc).ownBlock → OwnStep (w6.alloc (.cells #[.bool false] 4)) (.slice ba m bc) v' →
                        (∃ u, X.cell? ⟨w.heap.size + 1, k * 2 + 1, none⟩ = some u) ∧ X.frozen? ⟨w.heap.size + 1, k * 2 + 1, none⟩ = false ∧ (∃ vy, RowsD (w.heap.size + 1) (X.setCell ⟨w.heap.size + 1, k * 2 + 1, none⟩ v') (w.heap.size + 1) vy (dN L i (k + 1)) (dB L i (k + 1))) ∧ Below (w.heap.size + 1) w2 (X.setCell ⟨w.heap.size + 1, k * 2 + 1, none⟩ v') := by
                      intro X v' how hg hs
                      have ha := R8.alloc hry (.cells #[.bool false] 4)
                      rw [← hbv] at hg hs
                      have hb6 : Below (w.heap.size + 1) w2 (w6.alloc (.cells #[.bool false] 4)) := HBY.out.alloc (by omega) _
                      have hb7 : Below (w.heap.size + 1) w2 X := hb6.grown hg (by simp; omega) (fun g hgv => (ha.own_lt (i := 2 * k + 1) (by omega) g hgv).1)
                      have hblk : X.heap[w.heap.size + 1]? = (w6.alloc (.cells #[.bool false] 4)).heap[w.heap.size + 1]? := hg.block _ ha.lt (fun e => ha.ne (2 * k + 1) (by omega) e.symm)
                      have hap := RowsD.appB ha hlk how hg hs
                      rw [dB_put L i k (by rw [← HK.out]; exact hkk)] at hap
                      refine ⟨⟨vy (2 * k + 1), ?_⟩, frozen_of_row X _ _ _ _ (hblk.trans ha.blk), ⟨_, by rw [Nat.mul_comm]; exact hap⟩, hb7.setCell (Nat.le_refl _) _⟩
                      rw [Nat.mul_comm]
                      exact (World.cell?_of_block hblk).trans (ha.cell (by omega))
                    have FIN2 := Lib.hid fin2
                    have HBIT := Lib.hid hbit
                    have HBL := Lib.hid hbl
                    clear fin2 hbit hbl hry HRY hbv
                    go_wp2_with (at_builtin; (refine wpList_appB rfl (.tmp 83) (.tmp 84) _ rfl (w.heap.size + 1) 4 _ 1 Try.underlying36 infoB rfl _ _ rfl (HBIT.out.alloc _) (some ⟨w6.heap.size, 0, none⟩) 1 1 [false] rfl (slB_one w6) (fun e => by cases e) (by have := HBL.out; omega) (by have := HBL.out; omega) (by simp; omega) ?_; intro v8 w8 ow8 hg8 st8; obtain ⟨⟨u8, cu8⟩, fu8, hr8, hb8⟩ := FIN2.out w8 v8 ow8 hg8 st8; obtain ⟨a8, k8, hv8, _, _⟩ := ow8.sl; obtain ⟨l8, hl8⟩ : ∃ l8, l8 = (bF L i k ++ [false]).length := ⟨_, rfl⟩; rw [← hl8] at hv8; subst hv8; (have HR8 := Lib.hid hr8); (have HB8 := Lib.hid hb8); clear ow8 hg8 st8 hr8 hb8 hl8))
                    go_roundw
                    case rel => obtain ⟨vz, hr8⟩ := HR8.out; exact ⟨k + 1, vz, by go_num, by rw [← HS2.out], by omega, hr8, HB8.out⟩
                    case measure => simp [intOf]; omega
        · obtain rfl : k = 4 := by omega
          have hrow7 : RowsD (w.heap.size + 1) wx (w.heap.size + 1) vx (fun j => levN L j (i + 1)) (fun j => levB L j (i + 1)) := RowsD.to HRX.out (fun m hm => dN_end L i m hm) (fun m hm => dB_end L i m hm)
          have HROW7 := Lib.hid hrow7
          clear hrow7
          go_wp2_with fail
          exact ⟨⟨i + 1, vx, by go_num, by omega, HROW7.out, HBX.out⟩, by simp [intOf]; omega⟩
    · obtain rfl : i = n := by omega
      have hin : L.length = i := HL.out
      have hrow2 : RowsD (w.heap.size + 1) wr (w.heap.size + 1) vs (fun j => levN L j i) (clE L i 0) := by rw [clE_zero]; exact HROW.out
      have HROW2 := Lib.hid hrow2
      clear hrow2
      rename World => w5
      go_wp2_with fail
      go_loopw [10] (fun jv wx => ∃ (j : Nat), jv = .int .i64 (j : Nat) ∧ j ≤ 4 ∧ RowsD (w.heap.size + 1) wx (w.heap.size + 1) vs (fun j => levN L j i) (clE L i j) ∧ Below (w.heap.size + 1) w5 wx) (fun jv _ => 4 - (intOf jv).toNat)
      case atStart => exact ⟨0, rfl, by omega, HROW2.out, Below.refl _ _⟩
      case round =>
        rename World => wx
        obtain ⟨j, rfl, hj4, hrx, hbx⟩ := hrel
        have HRX := Lib.hid hrx
        have HBX := Lib.hid hbx
        clear hrx hbx
        by_cases hlj : j < 4
        · obtain ⟨m, hm⟩ : ∃ m, m = (levN L j i).length := ⟨_, rfl⟩
          have hm2 : m ≤ 2000000 := by rw [hm]; have := LEV.out j i hi; omega
          have hnum := RowsD.num HRX.out hlj
          obtain ⟨na, nc, hnv, _, _⟩ := hnum.sl
          rw [← hm] at hnv
          have c0 : wx.cell? ⟨w.heap.size + 1, j * 2, none⟩ = some (.slice na m nc) := by rw [Nat.mul_comm, HRX.out.cell (by omega), hnv]
          have HM := Lib.hid hm
          clear hm hnv hnum
          by_cases hm0 : 0 < m
          · have e0 : decide (0 < m) = true := decide_eq_true hm0
            have hlb : (clE L i j j).length = m := by rw [clE_at, levB_len, ← HM.out]
            obtain ⟨g, gc, hgv, hle2, hmx2, ⟨gu, hgcell⟩, hgf, hgr, hgn⟩ := RowsD.close HRX.out hlj hlb hm0
            rw [clE_at, clE_step] at hgr
            have c1 : wx.cell? ⟨w.heap.size + 1, j * 2 + 1, none⟩ = some (.slice (some ⟨g, 0, none⟩) m gc) := by rw [Nat.mul_comm, HRX.out.cell (by omega), hgv]
            obtain ⟨m1, hm1⟩ : ∃ m1 : Nat, m1 = m - 1 := ⟨_, rfl⟩
            rw [← hm1] at hgcell hgf hgr
            have hm5 : (m : Int) - 1 = (m1 : Int) := by omega
            have hm6 : m1 < m := by omega
            have hm7 : IntKind.i64.wrap (m1 : Int) = (m1 : Int) := by rw [IntKind.wrap_i64]; omega
            have HGR := Lib.hid hgr
            have HGB := Lib.hid (HBX.out.setCell (p := ⟨g, m1, none⟩) hgn (.bool true))
            clear hlb hgv hgr hm1
            go_wp2_with fail
            exact ⟨⟨j + 1, by go_num, by omega, HGR.out, HGB.out⟩, by simp [intOf]; omega⟩
          · have e0 : decide (0 < m) = false := decide_eq_false hm0
            have hr2 := HRX.out
            rw [← clE_none (by rw [← HM.out]; omega)] at hr2
            have HR2 := Lib.hid hr2
            clear hr2
            go_wp2_with fail
            exact ⟨⟨j + 1, by go_num, by omega, HR2.out, HBX.out⟩, by simp [intOf]; omega⟩
        · obtain rfl : j = 4 := by omega
          have hrow3 : RowsD (w.heap.size + 1) wx (w.heap.size + 1) vs (fun j => levN L j i) (lastB L) := RowsD.to HRX.out (fun m hm => rfl) (fun m hm => by rw [clE_end L m hm, hin])
          have hblk := hrow3.blk
          have hones := hrow3.ones
          have hb8 := HB.out.trans HBX.out
          have hres8 : wx.heap[w.heap.size]? = some (.cells nil8 96 (0, 0)) := (hb8.block _ (by omega)).trans HRES.out
          have HROW3 := Lib.hid hrow3
          have HBLK := Lib.hid hblk
          have HONES := Lib.hid hones
          have HB8 := Lib.hid hb8
          have HRES8 := Lib.hid hres8
          clear hrow3 hblk hones hb8 hres8 HRX HBX HROW2 HROW HB
          go_wp2_with (first
            | (refine wpList_load_row rfl 96 (.tmp 3) rfl (w.heap.size + 1) rfl _ _ _ _ HBLK.out Try.underlying96 rfl S8.out ?_)
            | (refine wpList_store_row rfl 96 (.tmp 2) (.tmp 106) rfl w.heap.size _ rfl rfl _ _ HRES8.out S8.out rfl HONES.out ?_)
            | fail)
          refine bodyPost_ret (results_cell_row rfl _ _ w.heap.size _ _ _ _ rfl (setRow_heap wx w.heap.size _ _ _ _ HRES8.out) Try.underlying96 rfl S8.out) rfl ⟨vs, rfl, ⟨w.heap.size + 1, ?_⟩, ?_⟩
          · exact (HROW3.out.mono (by omega : w.heap.size ≤ w.heap.size + 1)).kept (Kept.setRow wx w.heap.size _) (by omega) (fun i hi g hg e => by have := (HROW3.out.own_lt hi g hg).1; omega)
          · exact below_setRow (HB2.out.trans (HB8.out.mono (by omega))) (Nat.le_refl _) _
end Go.Proofs.Ytgajpekolamjbaa
