/- TvL TvE TvO TvG TvJ TvH, laid as one. -/
import Derived.Test.YtgajpekolamjbaaTwB
import Derived.Test.YtgajpekolamjbaaPkL
import Derived.Test.YtgajpekolamjbaaRkY
import Derived.Test.YtgajpekolamjbaaRkTo
import Derived.Test.YtgajpekolamjbaaTrA
import Derived.Test.YtgajpekolamjbaaHeD
import Derived.Laws.Tables
set_option linter.unusedVariables false
set_option linter.unusedSimpArgs false
/- What Open says of a level. Plain. -/
namespace Go.Proofs.Ytgajpekolamjbaa
open Go Go.RowKit Go.Tk
/-- The number of an entry of a level; the greatest of the first ones; the bit of an entry. -/
def tM (b : List UInt8) (k i : Nat) : Nat := numF (tP b k) (tW b k) i
def mxN (b : List UInt8) (k : Nat) : Nat → Nat
  | 0 => 0
  | i + 1 => max (mxN b k i) (tM b k i)
def tBit (b : List UInt8) (k i : Nat) : Bool := decide (i < tN b k) && btB (datB (tB b k)) i
/-- What is wrong with a level's vector. -/
def lkB (b : List UInt8) (k x y : Nat) : Int × Nat :=
  if tV b k = false then (180, tE b k) else if y ≠ 0 then ((y : Nat), tE b k + x) else if 0 < tN b k ∧ tBit b k (tN b k - 1) = false then (180, tE b k) else (0, 0)
/-- What is wrong with an entry. -/
def lnE (b : List UInt8) (k i : Nat) : Int × Nat :=
  if okN k (tM b k i : Nat) = false then (180, tA b k + 1) else if 0 < i ∧ (k = 0 ∨ tBit b k (i - 1) = false) ∧ tM b k i ≤ tM b k (i - 1) then (160, tA b k + 1) else (0, 0)
def lnS (b : List UInt8) (k : Nat) : Nat → Int × Nat
  | 0 => (0, 0)
  | i + 1 => if (lnS b k i).1 ≠ 0 then lnS b k i else lnE b k i
/-- What look says. -/
def lkE (b : List UInt8) (k x y : Nat) : Int × Nat :=
  if opErr (nums (tP b k)) (tN b k : Nat) (tW b k : Nat) ≠ 0 then (opErr (nums (tP b k)) (tN b k : Nat) (tW b k : Nat), tE b k - 1) else
  if bw (mxN b k (tN b k) : Nat) ≠ (tW b k : Nat) then (14, tA b k) else
  if 0 < k ∧ (lkB b k x y).1 ≠ 0 then lkB b k x y else lnS b k (tN b k)
theorem ln_stop (b : List UInt8) (k : Nat) {i j : Nat} (h : i ≤ j) (he : (lnS b k i).1 ≠ 0) : lnS b k j = lnS b k i := by
  induction j with
  | zero => have : i = 0 := by omega
            subst this; rfl
  | succ j ih =>
    by_cases hk : i = j + 1
    · subst hk; rfl
    · have := ih (by omega)
      simp only [lnS]
      rw [this, if_pos he]
theorem ln_zero {b : List UInt8} {k : Nat} : ∀ {j : Nat}, (lnS b k j).1 = 0 → lnS b k j = (0, 0)
  | 0, _ => rfl
  | j + 1, h => by
    simp only [lnS] at h ⊢
    by_cases h1 : (lnS b k j).1 ≠ 0
    · rw [if_pos h1] at h; exact absurd h h1
    rw [if_neg h1] at h ⊢
    unfold lnE at h ⊢
    by_cases h2 : okN k (tM b k j : Nat) = false
    · rw [if_pos h2] at h; cases h
    rw [if_neg h2] at h ⊢
    by_cases h3 : 0 < j ∧ (k = 0 ∨ tBit b k (j - 1) = false) ∧ tM b k j ≤ tM b k (j - 1)
    · rw [if_pos h3] at h; cases h
    rw [if_neg h3]
theorem mxN_lt (b : List UInt8) (k : Nat) (h : tW b k ≤ 23) : ∀ i, mxN b k i < 8388608
  | 0 => by simp [mxN]
  | i + 1 => by
    have h1 := mxN_lt b k h i
    have h2 := numF_lt (tP b k) (tW b k) i h
    simp only [mxN]
    unfold tM
    omega
end Go.Proofs.Ytgajpekolamjbaa
/- look: is a level right? -/
namespace Go.Tk
open Go Go.RowKit
theorem wh_two8 {P : Program} {ops : Array Oper} {Q : Exit → Act → World → Prop} {md : Region.Mode} {S : World → Prop} (i j : Nat) {fuel : Nat} {listed : Array Bool} {a : Act} {w : World} (hr : Region.ready md ops listed = [i, j])
    (h1 : wpOp P ops Q i (fun a' w' => S w' ∧ wpAnyH P md ops Q S fuel (listed.setIfInBounds i true) a' w') a w) (h2 : wpOp P ops Q j (fun a' w' => S w' ∧ wpAnyH P md ops Q S fuel (listed.setIfInBounds j true) a' w') a w) : wpAnyH P md ops Q S (fuel + 1) listed a w :=
  wpAnyH_all hr (by simp) (by simp only [List.mem_cons, List.not_mem_nil, or_false]; rintro k (rfl | rfl); exact h1; exact h2)
theorem wo_step8 {P : Program} {ops : Array Oper} {Q : Exit → Act → World → Prop} (i : Nat) (v : Value) {K : Act → World → Prop} {o : Oper} {a : Act} {w w' : World} (hi : ops[i]? = some o) (hg : o.guard = none)
    (hy : (execOp a.eval o).run P w = .ok (.value v) w') (h : K (a.put o.dst v) w') : wpOp P ops Q i K a w := by
  unfold Go.wpOp
  simp only [hi, wanted_free (ops := ops) (x := a.tmps) hg, if_true, Oper.wp, hy, Oper.upon]
  exact .inl h
theorem wo_call8 {P : Program} {ops : Array Oper} {Q : Exit → Act → World → Prop} (i : Nat) (v : Value) (R : World → Prop) {K : Act → World → Prop} {o : Oper} {a : Act} {w : World} {f : FuncId} {args : Array Value} (hi : ops[i]? = some o) (hg : o.guard = none)
    (he : (execOp a.eval o).run P w = .ok (.enter f args) w) (hc : Calls P f args w fun e w' => e = .returned v ∧ R w') (h : ∀ w', R w' → K (a.put o.dst v) w') : wpOp P ops Q i K a w := by
  unfold Go.wpOp
  simp only [hi, wanted_free (ops := ops) (x := a.tmps) hg, if_true, Oper.wp, he, Oper.upon]
  refine .inl (hc.mono ?_)
  rintro e w' ⟨rfl, hR⟩
  exact h w' hR
theorem exec_store_row {P : Program} {o : Oper} {a : Act} {w : World} (ty : TypeId) (x y : Operand) (ho : o.op = .store ty x y) (g : Nat) (cells : Array Value) (hx : a.eval x = .pointer (some ⟨g, 0, none⟩)) (hy : a.eval y = .agg cells)
    (t : TypeId) (old : Array Value) (hg : w.heap[g]? = some (.cells old t (0, 0))) (hi : (P.info? ty).map (·.size) = some cells.size) (hold : old.size = cells.size) (h1 : cells.all (·.oneCell') = true) :
    (execOp a.eval o).run P w = .ok .skip (w.setRow g cells) := by
  unfold execOp
  simp only [ho, hx, hy, Instr.storeAt, Instr.sureAddr, Sem.run_bind, Sem.run_pure, Result.andThen_ok, run_storeVar_row w g t ty old cells hg hi hold h1]
end Go.Tk
namespace Go.Proofs.Ytgajpekolamjbaa
open Go Go.RowKit Go.Tk
theorem opVal_agg8 (zs : List Int) (a : Option Addr) (c : Nat) (n wd : Int) : ∃ pa pl pc pi pj, opVal zs a c n wd = .agg #[.slice pa pl pc, .int .i64 pi, .int .i64 pj] := by
  unfold opVal; split <;> exact ⟨_, _, _, _, _, rfl⟩
theorem pk_one (ua : Option Addr) (ul uc : Nat) (ui uj : Int) : (#[.slice ua ul uc, .int .i64 ui, .int .i64 uj] : Array Value).all (·.oneCell') = true := by simp [Value.oneCell']
theorem Try.sizePk8 : (Try.prog.info? 146).map (·.size) = some 3 := by kernel_rfl
theorem open_le {bs : List UInt8} {x y : Nat} (h : OpenR bs x y) : x ≤ bs.length + 2000000000 := by
  rcases h with ⟨_, h, _⟩ | ⟨h0, _, h, _⟩ | ⟨_, _, _, h, _⟩ | ⟨h0, _, _, f, L, h1, h2, h3⟩
  · rw [h]; unfold shF; split
    · simp
    split
    · simp
    split
    · simp only; omega
    split
    · simp
    · simp
  · have := f4_lt bs 0
    rw [h]; unfold oG; omega
  · omega
  · have h4 := shF_ok h0
    have h5 := h1.bd (fun t h => (h2 t).1 h)
    have h6 : enO (daB bs (f4 bs 0)) (f4 bs 0) ≤ 2000000000 := by
      have h7 := cnt_le (daB bs (f4 bs 0)) (f4 bs 0)
      have h8 : (daB bs (f4 bs 0)).length ≤ (f4 bs 0 + 7) / 8 := by unfold daB; rw [List.length_take]; omega
      unfold enO mkO smO grO; omega
    rcases h3 with ⟨_, h3, _⟩ | ⟨_, _, h3, _⟩ | ⟨_, _, h3, _⟩
    · omega
    · omega
    · omega
/-- Does look open the level's vector? -/
def lkU (b : List UInt8) (k : Nat) : Prop := 0 < k ∧ tV b k = true ∧ opErr (nums (tP b k)) (tN b k : Nat) (tW b k : Nat) = 0 ∧ bw (mxN b k (tN b k) : Nat) = (tW b k : Nat)
/-- What look hands back. -/
def LookR (w : World) (b : List UInt8) (k : Nat) (e : Ending) (w' : World) : Prop :=
  Below w.heap.size w w' ∧ ∃ x y v, (lkU b k → OpenR (tB b k) x y) ∧ e = .returned v ∧ EV w' v (lkE b k x y).2 (lkE b k x y).1
theorem LookR.mk {w w3 w9 : World} {b : List UInt8} {k b9 x y : Nat} {er : Int × Nat} (h3 : Below w.heap.size w w3) (h9 : Below w3.heap.size w3 w9) (hU : lkU b k → OpenR (tB b k) x y) (hE : lkE b k x y = er) (h0 : er.1 ≠ 0)
    (hr : w9.heap[b9]? = some (.cells #[.int .i64 (er.2 : Nat), .iface 26 (.int .i64 er.1)] 152 (0, 0))) : LookR w b k (.returned (.iface 149 (.pointer (some ⟨b9, 0, none⟩)))) w9 :=
  ⟨h3.trans (h9.mono h3.size), x, y, _, hU, rfl, .inr ⟨b9, by rw [hE]; exact h0, rfl, by rw [hE]; exact hr⟩⟩
set_option maxRecDepth 100000 in
set_option maxHeartbeats 30000000 in
theorem look_calls (w : World) (gd : Nat) (b : List UInt8) (a : Option Addr) (cap : Nat) (vp : Nat → Option Addr) (hT : TreeM w gd b a cap vp) (hlen : b.length ≤ 140737488355328) (k : Nat) (hk : k < 4) (p : Nat) (hp : p = k * 8) :
    Calls Try.prog 52 #[.pointer (some ⟨gd, p, none⟩), .int .i64 (k : Nat)] w (LookR w b k) := by
  have hlv : (lvE b 4).1 = 0 := by
    have h := hT.ok
    unfold vwE at h
    by_cases h1 : (lvE b 4).1 ≠ 0
    · rw [if_pos h1] at h; rw [h]
    · exact Classical.not_not.1 h1
  obtain ⟨h00, hcn, hlo⟩ := lv_ok hlv
  have hcnk := hcn k hk
  have hlok := hlo k hk
  have hcell := fun X (hX : Below w.heap.size w X) f (hf : f < 8) => show X.cell? ⟨gd, p + f, none⟩ = some (lvc b a cap (vp k) k f) by
    have := RowC.cell (hT.row.below hX) (i := k * 8 + f) (by omega)
    rw [hp, this]
    unfold tvC
    rw [if_pos (by omega), show (k * 8 + f) / 8 = k by omega, show (k * 8 + f) % 8 = f by omega]
  obtain ⟨nk, hnk⟩ : ∃ nk, nk = tN b k := ⟨_, rfl⟩
  obtain ⟨wd, hwd⟩ : ∃ wd, wd = tW b k := ⟨_, rfl⟩
  obtain ⟨ea, hea⟩ : ∃ ea, ea = tA b k := ⟨_, rfl⟩
  obtain ⟨en, hen⟩ : ∃ en, en = tE b k := ⟨_, rfl⟩
  obtain ⟨nx, hnx⟩ : ∃ nx, nx = tA b (k + 1) := ⟨_, rfl⟩
  have hwd2 : wd ≤ 23 := by rw [hwd]; exact hlok.wd
  have hnk2 : nk ≤ 1048576 := by rw [hnk]; exact hcnk.le
  have hnxl : nx ≤ b.length := by rw [hnx]; exact hlok.en
  have hen1 : ea + 1 ≤ en := by rw [hea, hen]; exact tE_ge b k
  have henx : en ≤ nx := by rw [hen, hnx]; exact tX_ge b k
  have c0 : ∀ X, Below w.heap.size w X → X.cell? ⟨gd, p, none⟩ = some (.int .i64 (nk : Nat)) := fun X hX => by have := hcell X hX 0 (by omega); rw [hnk]; exact this
  have c1 : ∀ X, Below w.heap.size w X → X.cell? ⟨gd, p + 1, none⟩ = some (.int .i64 (wd : Nat)) := fun X hX => by have := hcell X hX 1 (by omega); rw [hwd]; exact this
  have c2 : ∀ X, Below w.heap.size w X → X.cell? ⟨gd, p + 2, none⟩ = some (.int .i64 (ea : Nat)) := fun X hX => by have := hcell X hX 2 (by omega); rw [hea]; exact this
  have c3 : ∀ X, Below w.heap.size w X → X.cell? ⟨gd, p + 3, none⟩ = some (.int .i64 (ea + 1 : Nat)) := fun X hX => by have := hcell X hX 3 (by omega); rw [hea]; exact this
  have c4 : ∀ X, Below w.heap.size w X → X.cell? ⟨gd, p + 4, none⟩ = some (.int .i64 (en : Nat)) := fun X hX => by have := hcell X hX 4 (by omega); rw [hen]; exact this
  obtain ⟨pa, hpa⟩ : ∃ pa, pa = slA a cap (tA b k + 1) := ⟨_, rfl⟩
  obtain ⟨pl, hpl⟩ : ∃ pl, pl = tE b k - (tA b k + 1) := ⟨_, rfl⟩
  obtain ⟨pc, hpc⟩ : ∃ pc, pc = cap - (tA b k + 1) := ⟨_, rfl⟩
  obtain ⟨pz, hpz⟩ : ∃ pz, pz = tP b k := ⟨_, rfl⟩
  have c5 : ∀ X, Below w.heap.size w X → X.cell? ⟨gd, p + 5, none⟩ = some (.slice pa pl pc) := fun X hX => by have := hcell X hX 5 (by omega); rw [hpa, hpl, hpc]; exact this
  have sp : ∀ X, Below w.heap.size w X → SlI .u8 X pa pl pc (nums pz) := fun X hX => by
    have := (hT.sl.keep hX).cut (tA b k + 1) pl (by rw [hpl, ← hea, ← hen]; omega)
    rw [show tA b k + 1 + pl - (tA b k + 1) = pl by omega] at this
    rw [hpa, hpc, hpz]
    unfold tP slA
    rw [← hpl]
    have e : ((nums b).drop (tA b k + 1)).take pl = nums ((b.drop (tA b k + 1)).take pl) := by simp [nums, List.map_drop, List.map_take]
    rw [← e]; exact this
  obtain ⟨er, her⟩ : ∃ er, er = opErr (nums pz) (nk : Nat) (wd : Nat) := ⟨_, rfl⟩
  have hop : ∀ X, Below w.heap.size w X → Calls Try.prog 92 #[.slice pa pl pc, .int .i64 (nk : Nat), .int .i64 (wd : Nat)] X fun e w' => e = .returned (.tuple #[opVal (nums pz) pa pc (nk : Nat) (wd : Nat), .int .i64 er]) ∧ Below X.heap.size X w' := fun X hX => by
    rw [her]
    exact popen_calls X pa pl pc (nums pz) (sp X hX) (fun i hi => by
      have := nums_u8 pz ((nums pz)[i]) (List.getElem_mem hi)
      have e : (nums pz).getD i 0 = (nums pz)[i] := by simp [hi]
      rw [e]; exact this) (nk : Nat) (wd : Nat)
  obtain ⟨ua, ul, uc, ui, uj, hov⟩ := opVal_agg8 (nums pz) pa pc (nk : Nat) (wd : Nat)
  rw [hov] at hop
  obtain ⟨sa, hsa⟩ : ∃ sa, sa = slA a cap (tE b k) := ⟨_, rfl⟩
  obtain ⟨sl, hsl⟩ : ∃ sl, sl = tA b (k + 1) - tE b k := ⟨_, rfl⟩
  obtain ⟨sc, hsc⟩ : ∃ sc, sc = cap - tE b k := ⟨_, rfl⟩
  have c6 : ∀ X, Below w.heap.size w X → X.cell? ⟨gd, p + 6, none⟩ = some (.slice sa sl sc) := fun X hX => by have := hcell X hX 6 (by omega); rw [hsa, hsl, hsc]; exact this
  have ss : ∀ X, Below w.heap.size w X → SlI .u8 X sa (tB b k).length sc (nums (tB b k)) := fun X hX => by
    have hle : tE b k ≤ tA b (k + 1) := tX_ge b k
    have := (hT.sl.keep hX).cut (tE b k) (tA b (k + 1) - tE b k) (by omega)
    rw [show tE b k + (tA b (k + 1) - tE b k) - tE b k = tA b (k + 1) - tE b k by omega] at this
    rw [hsa, hsc]
    unfold slA
    have e : ((nums b).drop (tE b k)).take (tA b (k + 1) - tE b k) = nums (tB b k) := by unfold tB; simp [nums, List.map_drop, List.map_take]
    have e2 : (tB b k).length = tA b (k + 1) - tE b k := by unfold tB; rw [List.length_take, List.length_drop, ← hnx, ← hen]; omega
    rw [← e, e2]; exact this
  have hsl2 : sl = (tB b k).length := by rw [hsl]; unfold tB; rw [List.length_take, List.length_drop, ← hnx, ← hen]; omega
  have c7n : tV b k = false → ∀ X, Below w.heap.size w X → X.cell? ⟨gd, p + 7, none⟩ = some (.pointer none) := fun hv X hX => by
    have := hcell X hX 7 (by omega)
    rw [(hT.vec k hk).2 hv] at this
    exact this
  have hvk : tV b k = true → ∃ gv, Hid (∀ X, Below w.heap.size w X → X.cell? ⟨gd, p + 7, none⟩ = some (.pointer (some ⟨gv, 0, none⟩))) ∧
      Hid (∀ X, Below w.heap.size w X → Calls Try.prog 93 #[.slice sa sl sc] X fun e w' => ∃ pp v x y, e = .returned (.tuple #[.pointer pp, v]) ∧ OpenR (tB b k) x y ∧ EV w' v (x : Nat) (y : Nat) ∧ Below X.heap.size X w') ∧
      Hid (∀ X, Below w.heap.size w X → ∀ j : Nat, j ≤ 2097152 → Calls Try.prog 94 #[.pointer (some ⟨gv, 0, none⟩), .int .i64 (j : Nat)] X fun e w' => e = .returned (.bool (tBit b k j)) ∧ ∃ q, w' = X.drewN q) := fun hv => by
    obtain ⟨gv, h1, h2⟩ := (hT.vec k hk).1 hv
    refine ⟨gv, Lib.hid (fun X hX => ?_), Lib.hid (fun X hX => ?_), Lib.hid (fun X hX j hj => ?_)⟩
    · have := hcell X hX 7 (by omega)
      rw [h1] at this
      exact this
    · rw [hsl2]
      exact (open_any X sa sc (tB b k) (ss X hX)).mono fun e w' ⟨pp, v, x, y, g1, g2, g3, g4, _⟩ => ⟨pp, v, x, y, g1, g2, g3, g4⟩
    · refine (vbit_calls (h2.below8 hX) (j : Nat) (by omega)).mono fun e w' ⟨g1, g2⟩ => ⟨?_, g2⟩
      rw [g1]
      unfold tBit
      rw [decide_eq_true (show (0 : Int) ≤ (j : Nat) by omega), Bool.true_and, Int.toNat_natCast]
      simp only [Int.ofNat_lt]
  have SZ := Lib.hid Try.sizePk8
  have C6 := Lib.hid c6
  have C7n := Lib.hid c7n
  have HVK := Lib.hid hvk
  have C0 := Lib.hid c0
  have C1 := Lib.hid c1
  have C2 := Lib.hid c2
  have C3 := Lib.hid c3
  have C4 := Lib.hid c4
  have C5 := Lib.hid c5
  have SP := Lib.hid sp
  have HOP := Lib.hid hop
  have HER := Lib.hid her
  have HNK := Lib.hid hnk
  have HWD := Lib.hid hwd
  have HEA := Lib.hid hea
  have HEN := Lib.hid hen
  have HNX := Lib.hid hnx
  have HPZ := Lib.hid hpz
  have HT := Lib.hid hT
  have HP := Lib.hid hp
  have HC := Lib.hid hcell
  clear hvk c7n hsl2 ss c6 hsa hsl hsc
  clear h00 hlv hcn hlo hcnk hlok c0 c1 c2 c3 c4 c5 sp hop her hnk hwd hea hen hnx hpz hpa hpl hpc hT hp hcell hov
  go_enter Try.func52, Try.ntmps52
  go_upto_region 1 with fail
  go_cut [6] from 15 to 30 (fun s6 wx => s6 = .int .i64 er ∧ Below w.heap.size w wx)
  case first =>
    refine wh_startN (S := fun w' => Below w.heap.size w w') 19 rfl (by kernel_rfl) ?_
    have bV : Below w.heap.size w w.drew := below_drewN (Below.refl _ w) 1
    have zV : w.drew.heap.size = w.heap.size := rfl
    generalize w.drew = V at bV zV ⊢
    refine wh_takeD 0 16 (.pointer (some ⟨gd, p, none⟩)) rfl rfl rfl (by kernel_rfl) (by kernel_rfl) (by kernel_rfl) (fun _ _ _ _ h => h) bV (fun w' h => by simp [go_sem]) ?_
    refine wh_takeD 1 17 (.pointer (some ⟨gd, p, none⟩)) rfl rfl rfl (by kernel_rfl) (by kernel_rfl) (by kernel_rfl) (fun _ _ _ _ h => h) bV (fun w' h => by simp [go_sem]) ?_
    refine wh_takeD 2 18 (.pointer (some ⟨gd, p + 5, none⟩)) rfl rfl rfl (by kernel_rfl) (by kernel_rfl) (by kernel_rfl) (fun _ _ _ _ h => h) bV (fun w' h => by simp [go_sem]) ?_
    refine wh_takeD 3 19 (.slice pa pl pc) rfl rfl rfl (by kernel_rfl) (by kernel_rfl) (by kernel_rfl) (fun _ _ _ _ h => h) bV (fun w' h => by have hc := C5.out w' h; simp [go_sem, hc]) ?_
    refine wh_takeD 4 20 (.pointer (some ⟨gd, p, none⟩)) rfl rfl rfl (by kernel_rfl) (by kernel_rfl) (by kernel_rfl) (fun _ _ _ _ h => h) bV (fun w' h => by simp [go_sem]) ?_
    refine wh_takeD 5 21 (.pointer (some ⟨gd, p, none⟩)) rfl rfl rfl (by kernel_rfl) (by kernel_rfl) (by kernel_rfl) (fun _ _ _ _ h => h) bV (fun w' h => by simp [go_sem]) ?_
    refine wh_takeD 6 22 (.pointer (some ⟨gd, p, none⟩)) rfl rfl rfl (by kernel_rfl) (by kernel_rfl) (by kernel_rfl) (fun _ _ _ _ h => h) bV (fun w' h => by simp [go_sem]) ?_
    refine wh_takeD 7 23 (.int .i64 (nk : Nat)) rfl rfl rfl (by kernel_rfl) (by kernel_rfl) (by kernel_rfl) (fun _ _ _ _ h => h) bV (fun w' h => by have hc := C0.out w' h; simp [go_sem, hc]) ?_
    refine wh_takeD 8 24 (.pointer (some ⟨gd, p, none⟩)) rfl rfl rfl (by kernel_rfl) (by kernel_rfl) (by kernel_rfl) (fun _ _ _ _ h => h) bV (fun w' h => by simp [go_sem]) ?_
    refine wh_takeD 9 25 (.pointer (some ⟨gd, p, none⟩)) rfl rfl rfl (by kernel_rfl) (by kernel_rfl) (by kernel_rfl) (fun _ _ _ _ h => h) bV (fun w' h => by simp [go_sem]) ?_
    refine wh_takeD 10 26 (.pointer (some ⟨gd, p + 1, none⟩)) rfl rfl rfl (by kernel_rfl) (by kernel_rfl) (by kernel_rfl) (fun _ _ _ _ h => h) bV (fun w' h => by simp [go_sem]) ?_
    refine wh_takeD 11 27 (.int .i64 (wd : Nat)) rfl rfl rfl (by kernel_rfl) (by kernel_rfl) (by kernel_rfl) (fun _ _ _ _ h => h) bV (fun w' h => by have hc := C1.out w' h; simp [go_sem, hc]) ?_
    refine wh_two8 12 16 (by kernel_rfl) ?_ ?_
    · refine wo_callD 12 28 (.tuple #[.agg #[.slice ua ul uc, .int .i64 ui, .int .i64 uj], .int .i64 er]) (fun w' => Below V.heap.size V w') rfl rfl rfl (by simp [go_sem]) (HOP.out V bV) ?_
      intro w1 hb1
      have b1 := bV.trans (hb1.mono (by omega))
      have z1 := b1.size
      refine ⟨b1, ?_⟩
      refine wh_takeD 13 15 (.tuple #[.agg #[.slice ua ul uc, .int .i64 ui, .int .i64 uj], .int .i64 er]) rfl rfl rfl (by kernel_rfl) (by kernel_rfl) (by kernel_rfl) (fun _ _ _ _ h => h) b1 (fun w' h => by simp [go_sem]) ?_
      refine wh_takeD 14 29 (.agg #[.slice ua ul uc, .int .i64 ui, .int .i64 uj]) rfl rfl rfl (by kernel_rfl) (by kernel_rfl) (by kernel_rfl) (fun _ _ _ _ h => h) b1 (fun w' h => by simp [go_sem]) ?_
      refine wh_takeD 15 30 (.int .i64 er) rfl rfl rfl (by kernel_rfl) (by kernel_rfl) (by kernel_rfl) (fun _ _ _ _ h => h) b1 (fun w' h => by simp [go_sem]) ?_
      have b2 : Below w.heap.size w (w1.alloc (.cells #[.slice none 0 0, .int .i64 0, .int .i64 0] 146)) := b1.alloc z1 _
      refine wh_stepD 16 5 (.pointer (some ⟨w1.heap.size, 0, none⟩)) (w' := w1.alloc (.cells #[.slice none 0 0, .int .i64 0, .int .i64 0] 146)) rfl rfl rfl (by kernel_rfl) (by simp [go_sem]) b2 ?_
      have b3 : Below w.heap.size w ((w1.alloc (.cells #[.slice none 0 0, .int .i64 0, .int .i64 0] 146)).setRow w1.heap.size #[.slice ua ul uc, .int .i64 ui, .int .i64 uj]) := below_setRow b2 z1 _
      refine wh_skipD 17 (w' := (w1.alloc (.cells #[.slice none 0 0, .int .i64 0, .int .i64 0] 146)).setRow w1.heap.size #[.slice ua ul uc, .int .i64 ui, .int .i64 uj]) rfl rfl rfl (by kernel_rfl)
        (exec_store_row 146 (.tmp 5) (.tmp 29) rfl w1.heap.size #[.slice ua ul uc, .int .i64 ui, .int .i64 uj] (by simp [go_sem]) (by simp [go_sem]) _ _ (heap_alloc_new _ _) SZ.out rfl (pk_one _ _ _ _ _)) b3 ?_
      refine wh_stepD 18 6 (.int .i64 er) (w' := (w1.alloc (.cells #[.slice none 0 0, .int .i64 0, .int .i64 0] 146)).setRow w1.heap.size #[.slice ua ul uc, .int .i64 ui, .int .i64 uj]) rfl rfl rfl (by kernel_rfl) (by simp [go_sem]) b3 ?_
      refine wpAnyH_done (by kernel_rfl) ?_ 0
      generalize (w1.alloc (.cells #[.slice none 0 0, .int .i64 0, .int .i64 0] 146)).setRow w1.heap.size #[.slice ua ul uc, .int .i64 ui, .int .i64 uj] = w9 at b3 ⊢
      have B9 := Lib.hid b3
      clear b3 b2 b1 bV
      simp only [List.setIfInBounds_toArray, List.set_cons_succ, List.set_cons_zero]
      go_wp2_with fail
      go_meet
      exact ⟨rfl, B9.out⟩
    · have b0 : Below w.heap.size w (V.alloc (.cells #[.slice none 0 0, .int .i64 0, .int .i64 0] 146)) := bV.alloc (by omega) _
      refine wo_stepD 16 5 (.pointer (some ⟨V.heap.size, 0, none⟩)) (w' := V.alloc (.cells #[.slice none 0 0, .int .i64 0, .int .i64 0] 146)) rfl rfl rfl (by simp [go_sem]) ⟨b0, ?_⟩
      have hg := heap_alloc_new V (.cells #[.slice none 0 0, .int .i64 0, .int .i64 0] 146)
      have hgl : V.heap.size < (V.alloc (.cells #[.slice none 0 0, .int .i64 0, .int .i64 0] 146)).heap.size := by simp
      generalize V.alloc (.cells #[.slice none 0 0, .int .i64 0, .int .i64 0] 146) = V2 at b0 hg hgl ⊢
      have z2 := b0.size
      refine wh_callD 12 28 (.tuple #[.agg #[.slice ua ul uc, .int .i64 ui, .int .i64 uj], .int .i64 er]) (fun w' => Below V2.heap.size V2 w') rfl rfl rfl (by kernel_rfl) (by simp [go_sem]) (HOP.out V2 b0) (fun w' h => b0.trans (h.mono z2)) ?_
      intro w1 hb1
      have b1 := b0.trans (hb1.mono z2)
      have hg1 := (hb1.block V.heap.size hgl).trans hg
      refine wh_takeD 13 15 (.tuple #[.agg #[.slice ua ul uc, .int .i64 ui, .int .i64 uj], .int .i64 er]) rfl rfl rfl (by kernel_rfl) (by kernel_rfl) (by kernel_rfl) (fun _ _ _ _ h => h) b1 (fun w' h => by simp [go_sem]) ?_
      refine wh_takeD 14 29 (.agg #[.slice ua ul uc, .int .i64 ui, .int .i64 uj]) rfl rfl rfl (by kernel_rfl) (by kernel_rfl) (by kernel_rfl) (fun _ _ _ _ h => h) b1 (fun w' h => by simp [go_sem]) ?_
      refine wh_takeD 15 30 (.int .i64 er) rfl rfl rfl (by kernel_rfl) (by kernel_rfl) (by kernel_rfl) (fun _ _ _ _ h => h) b1 (fun w' h => by simp [go_sem]) ?_
      have b3 : Below w.heap.size w (w1.setRow V.heap.size #[.slice ua ul uc, .int .i64 ui, .int .i64 uj]) := below_setRow b1 (by omega) _
      refine wh_skipD 17 (w' := w1.setRow V.heap.size #[.slice ua ul uc, .int .i64 ui, .int .i64 uj]) rfl rfl rfl (by kernel_rfl)
        (exec_store_row 146 (.tmp 5) (.tmp 29) rfl V.heap.size #[.slice ua ul uc, .int .i64 ui, .int .i64 uj] (by simp [go_sem]) (by simp [go_sem]) _ _ hg1 SZ.out rfl (pk_one _ _ _ _ _)) b3 ?_
      refine wh_stepD 18 6 (.int .i64 er) (w' := w1.setRow V.heap.size #[.slice ua ul uc, .int .i64 ui, .int .i64 uj]) rfl rfl rfl (by kernel_rfl) (by simp [go_sem]) b3 ?_
      refine wpAnyH_done (by kernel_rfl) ?_ 0
      generalize w1.setRow V.heap.size #[.slice ua ul uc, .int .i64 ui, .int .i64 uj] = w9 at b3 ⊢
      have B9 := Lib.hid b3
      clear b3 b1 bV b0 hg hg1
      simp only [List.setIfInBounds_toArray, List.set_cons_succ, List.set_cons_zero]
      go_wp2_with fail
      go_meet
      exact ⟨rfl, B9.out⟩
  case rest =>
    obtain ⟨rfl, hb1⟩ := hcut
    rename World => w1
    have HB1 := Lib.hid hb1
    have hz1 := hb1.size
    by_cases he : er = 0
    rotate_left
    · have e1 : (er != 0) = true := by simp [he]
      have hlk : ∀ x y, lkE b k x y = (er, en - 1) := fun x y => by
        unfold lkE
        rw [← HPZ.out, ← HNK.out, ← HWD.out, ← HER.out, if_pos he, ← HEN.out]
      obtain ⟨e2, he2⟩ : ∃ e2 : Nat, e2 = en - 1 := ⟨_, rfl⟩
      have he2i : (en : Int) - 1 = (e2 : Int) := by omega
      have c4 := C4.out w1 HB1.out
      have HLK := Lib.hid hlk
      have HE := Lib.hid he
      have HE2 := Lib.hid he2
      clear he hlk hb1 he2
      go_wp2_with (go_at_call 56; (with_reducible refine (twrong_calls _ _ _).mono ?_); rintro e w9 ⟨b9, rfl, hb9, hr9, hbe9⟩; (have HR9 := Lib.hid hr9); (have HBE9 := Lib.hid hbe9); clear hr9 hbe9)
      go_ret
      exact LookR.mk (x := 0) (y := 0) (er := (er, en - 1)) HB1.out HBE9.out (fun h => absurd (by rw [HER.out, HNK.out, HWD.out, HPZ.out]; exact h.2.2.1) HE.out) (HLK.out 0 0) HE.out (by rw [← HE2.out]; exact HR9.out)
    · have e1 : (er != 0) = false := by simp [he]
      have HE := Lib.hid he
      have c0 := C0.out w1 HB1.out
      clear he hb1
      go_wp2_with fail
      go_loopw [7, 44] (fun mv iv wr => ∃ (i : Nat), iv = .int .i64 (i : Nat) ∧ mv = .int .i64 (mxN b k i : Nat) ∧ i ≤ nk ∧ Below w.heap.size w wr) (fun _ iv _ => nk - (intOf iv).toNat)
      case atStart => exact ⟨0, rfl, rfl, Nat.zero_le _, HB1.out⟩
      case round =>
        rename World => wr
        obtain ⟨i, rfl, rfl, hi, hbr⟩ := hrel
        have HBR := Lib.hid hbr
        have hzr := hbr.size
        clear hbr
        by_cases hin : i < nk
        · have hnum := tnumber_calls wr gd p wd pa pl pc pz (C1.out wr HBR.out) (C5.out wr HBR.out) (SP.out wr HBR.out) hwd2 i (by omega)
          have hmx : mxN b k (i + 1) = max (mxN b k i) (numF pz wd i) := by simp only [mxN]; unfold tM; rw [← HPZ.out, ← HWD.out]
          obtain ⟨nv, hnv⟩ : ∃ nv, nv = numF pz wd i := ⟨_, rfl⟩
          obtain ⟨mv, hmv⟩ : ∃ mv, mv = mxN b k i := ⟨_, rfl⟩
          rw [← hnv] at hnum hmx
          rw [← hmv] at hmx ⊢
          have hmxi : max (mv : Int) (nv : Int) = ((mxN b k (i + 1) : Nat) : Int) := by rw [hmx]; omega
          obtain ⟨m2, hm2⟩ : ∃ m2, m2 = mxN b k (i + 1) := ⟨_, rfl⟩
          rw [← hm2] at hmxi
          have HM2 := Lib.hid hm2
          have HNUM := Lib.hid hnum
          clear hnum hmx hnv hmv hm2
          go_wp2_with (go_at_call 62; refine HNUM.out.mono ?_; rintro e w2 ⟨rfl, m, hm⟩; (have HB2 := Lib.hid (show Below w.heap.size w w2 by rw [hm]; exact below_drewN HBR.out m)); clear hm)
          exact ⟨⟨i + 1, by go_num, by rw [HM2.out], by omega, HB2.out⟩, by simp [intOf]; omega⟩
        · obtain rfl : i = nk := by omega
          have hmlt := mxN_lt b k (by rw [← HWD.out]; exact hwd2) i
          obtain ⟨mv, hmv⟩ : ∃ mv, mv = mxN b k i := ⟨_, rfl⟩
          rw [← hmv] at hmlt ⊢
          obtain ⟨wb, hwb⟩ : ∃ wb, wb = bw (mv : Nat) := ⟨_, rfl⟩
          have hwid : ∀ q, Calls Try.prog 38 #[.int .u64 (mv : Nat)] (wr.drewN q) fun e w' => e = .returned (.int .i64 wb) ∧ w' = wr.drewN q := fun q => (width_calls (mv : Nat) _ (by omega) (by omega)).mono fun _ _ ⟨g1, g2⟩ => ⟨by rw [hwb]; exact g1, g2.symm⟩
          have HWID := Lib.hid hwid
          have HWB := Lib.hid hwb
          have HMV := Lib.hid hmv
          have c1 := C1.out wr HBR.out
          have hu64 : IntKind.u64.wrap (mv : Int) = (mv : Int) := by rw [IntKind.wrap_u64]; omega
          clear hwid hwb hmv
          by_cases hww : wb = (wd : Nat)
          rotate_left
          · have e2 : (wb != (wd : Int)) = true := by simp [hww]
            have hlk : ∀ x y, lkE b k x y = (14, ea) := fun x y => by
              unfold lkE
              rw [← HPZ.out, ← HNK.out, ← HWD.out, ← HER.out, if_neg (by simp [HE.out]), ← HMV.out, ← HWB.out, if_pos hww, ← HEA.out]
            have HLK := Lib.hid hlk
            have HWW := Lib.hid hww
            clear hlk hww
            go_wp2_with fail
            go_quiet ((go_at_call 38; with_reducible exact Calls.quiet_of_same (HWID.out _)))
            have c2 := C2.out _ (below_drewN HBR.out nq)
            have hzq := (below_drewN HBR.out nq).size
            go_wp2_with (go_at_call 56; (with_reducible refine (twrong_calls _ _ _).mono ?_); rintro e w9 ⟨b9, rfl, hb9, hr9, hbe9⟩; (have HR9 := Lib.hid hr9); (have HBE9 := Lib.hid hbe9); clear hr9 hbe9)
            go_ret
            exact LookR.mk (x := 0) (y := 0) (er := (14, ea)) (below_drewN HBR.out nq) HBE9.out (fun h => absurd (by rw [HWB.out, HMV.out, HNK.out, HWD.out]; exact h.2.2.2) HWW.out) (HLK.out 0 0) (by simp) HR9.out
          · have e2 : (wb != (wd : Int)) = false := by simp [hww]
            have HWW := Lib.hid hww
            clear hww
            go_wp2_with fail
            go_quiet ((go_at_call 38; with_reducible exact Calls.quiet_of_same (HWID.out _)))
            have hb3 := below_drewN HBR.out nq
            generalize wr.drewN nq = w3 at hb3 ⊢
            have HB3 := Lib.hid hb3
            have hz3 := hb3.size
            clear hb3 c1 HBR hzr
            go_upto_if 67 with fail
            have hU : ∀ x y, lkE b k x y = if 0 < k ∧ (lkB b k x y).1 ≠ 0 then lkB b k x y else lnS b k i := fun x y => by
              unfold lkE
              rw [← HPZ.out, ← HNK.out, ← HWD.out, ← HER.out, if_neg (by simp [HE.out]), ← HMV.out, ← HWB.out, if_neg (by simp [HWW.out])]
            have HU := Lib.hid hU
            clear hU
            go_cut [] from 67 to 130 (fun wx => Below w.heap.size w wx ∧ ∃ x y, (lkU b k → OpenR (tB b k) x y) ∧ (0 < k → (lkB b k x y).1 = 0))
            case first =>
              by_cases hk0 : 0 < k
              rotate_left
              · have d1 : decide ((0 : Int) < (k : Int)) = false := decide_eq_false (by omega)
                go_wp2_with fail
                go_meet
                exact ⟨HB3.out, 0, 0, fun h => absurd h.1 hk0, fun h => absurd h hk0⟩
              · have d1 : decide ((0 : Int) < (k : Int)) = true := decide_eq_true (by omega)
                have c4 := C4.out w3 HB3.out
                cases hv : tV b k with
                | false =>
                  have c7 := C7n.out hv w3 HB3.out
                  have hB : ∀ x y, lkB b k x y = (180, en) := fun x y => by unfold lkB; rw [if_pos hv, HEN.out]
                  have HBB := Lib.hid hB
                  have HVV := Lib.hid hv
                  clear hB hv
                  go_wp2_with (go_at_call 56; (with_reducible refine (twrong_calls _ _ _).mono ?_); rintro e w9 ⟨b9, rfl, hb9, hr9, hbe9⟩; (have HR9 := Lib.hid hr9); (have HBE9 := Lib.hid hbe9); clear hr9 hbe9)
                  go_ret
                  exact LookR.mk (x := 0) (y := 0) (er := (180, en)) HB3.out HBE9.out (fun h => absurd (HVV.out.symm.trans h.2.1) (by simp)) (by rw [HU.out, HBB.out]; exact if_pos ⟨hk0, by simp⟩) (by simp) HR9.out
                | true =>
                  obtain ⟨gv, C7, HOB, HBIT⟩ := HVK.out hv
                  have c7 := C7.out w3 HB3.out
                  have c6 := C6.out w3 HB3.out
                  have HVV := Lib.hid hv
                  clear hv
                  go_upto_region 16 with (go_at_call 93; (with_reducible refine (HOB.out w3 HB3.out).mono ?_); rintro e w4 ⟨pp, v4, x, y, rfl, ho, hev, hb4⟩; (have HO := Lib.hid ho); (have HEV := Lib.hid hev); (have HB4 := Lib.hid hb4); clear ho hev hb4)
                  have hb34 := HB3.out.trans (HB4.out.mono hz3)
                  have HB34 := Lib.hid hb34
                  have hz4 := hb34.size
                  have c4' := C4.out w4 hb34
                  have c0' := C0.out w4 hb34
                  have c7' := C7.out w4 hb34
                  clear hb34 c4 c7 c6
                  by_cases hy : y = 0
                  · have hv4 : v4 = .nilIface := by have := HEV.out; rw [hy] at this; exact this.none
                    subst hv4
                    have HY := Lib.hid hy
                    clear hy
                    by_cases hi0 : 0 < i
                    rotate_left
                    · have d2 : decide ((0 : Int) < (i : Int)) = false := decide_eq_false (by omega)
                      have hB : (lkB b k x y).1 = 0 := by unfold lkB; rw [if_neg (by rw [HVV.out]; simp), if_neg (by rw [HY.out]; simp), if_neg (by rw [← HNK.out]; omega)]
                      have HBB := Lib.hid hB
                      clear hB
                      go_wp2_with fail
                      go_quiet (fail)
                      have hbq := below_drewN HB34.out nq
                      generalize w4.drewN nq = w5 at hbq ⊢
                      have HB5 := Lib.hid hbq
                      clear hbq
                      go_wp2_with fail
                      go_meet
                      exact ⟨HB5.out, x, y, fun _ => HO.out, fun _ => HBB.out⟩
                    · have d2 : decide ((0 : Int) < (i : Int)) = true := decide_eq_true (by omega)
                      obtain ⟨j, hj⟩ : ∃ j : Nat, j = i - 1 := ⟨_, rfl⟩
                      have hji : (i : Int) - 1 = (j : Nat) := by omega
                      have hbit := fun q => HBIT.out (w4.drewN q) (below_drewN HB34.out q) j (by omega)
                      have hB : ∀ bt, tBit b k j = bt → lkB b k x y = if bt = false then (180, en) else (0, 0) := fun bt hbt => by
                        unfold lkB
                        rw [if_neg (by rw [HVV.out]; simp), if_neg (by rw [HY.out]; simp), ← HNK.out, ← hj, hbt, ← HEN.out]
                        cases bt <;> simp [hi0]
                      have hB2 := hB _ rfl
                      generalize tBit b k j = bt at hbit hB2
                      have HBB := Lib.hid hB2
                      have HBI := Lib.hid hbit
                      clear hB hB2 hbit hj
                      cases bt with
                      | false =>
                        go_wp2_with fail
                        go_quiet ((go_at_call 94; (with_reducible exact quiet_dr (HBI.out _))))
                        have hbq := below_drewN HB34.out nq
                        generalize w4.drewN nq = w5 at hbq ⊢
                        have HB5 := Lib.hid hbq
                        have c4 := C4.out w5 hbq
                        clear hbq
                        go_wp2_with (go_at_call 56; (with_reducible refine (twrong_calls _ _ _).mono ?_); rintro e w9 ⟨b9, rfl, hb9, hr9, hbe9⟩; (have HR9 := Lib.hid hr9); (have HBE9 := Lib.hid hbe9); clear hr9 hbe9)
                        go_ret
                        exact LookR.mk (x := x) (y := y) (er := (180, en)) HB5.out HBE9.out (fun _ => HO.out) (by rw [HU.out, HBB.out]; exact if_pos ⟨hk0, by simp⟩) (by simp) HR9.out
                      | true =>
                        go_wp2_with fail
                        go_quiet ((go_at_call 94; (with_reducible exact quiet_dr (HBI.out _))))
                        have hbq := below_drewN HB34.out nq
                        generalize w4.drewN nq = w5 at hbq ⊢
                        have HB5 := Lib.hid hbq
                        clear hbq
                        go_wp2_with fail
                        go_meet
                        exact ⟨HB5.out, x, y, fun _ => HO.out, fun _ => by rw [HBB.out]; rfl⟩
                  · obtain ⟨b4, hy4, rfl, hrow4⟩ : ∃ b4, ((y : Nat) : Int) ≠ 0 ∧ v4 = .iface 149 (.pointer (some ⟨b4, 0, none⟩)) ∧ w4.heap[b4]? = some (.cells #[.int .i64 (x : Nat), .iface 26 (.int .i64 (y : Nat))] 152 (0, 0)) := by
                      rcases HEV.out with ⟨_, _, h⟩ | h
                      · exact absurd (by omega) hy
                      · exact h
                    have f0 : w4.cell? ⟨b4, 0, none⟩ = _ := cell_of_row w4 b4 0 _ _ _ hrow4
                    have f1 : w4.cell? ⟨b4, 1, none⟩ = _ := cell_of_row w4 b4 1 _ _ _ hrow4
                    simp only [List.getElem?_toArray, List.getElem?_cons_zero, List.getElem?_cons_succ] at f0 f1
                    obtain ⟨ex, hex0⟩ : ∃ ex, ex = en + x := ⟨_, rfl⟩
                    have hB : lkB b k x y = ((((y : Nat) : Int), ex) : Int × Nat) := by unfold lkB; rw [if_neg (by rw [HVV.out]; simp), if_pos hy, ← HEN.out, ← hex0]
                    have HBB := Lib.hid hB
                    have HY4 := Lib.hid hy4
                    have HROW := Lib.hid hrow4
                    have hex : (en : Int) + (x : Nat) = (ex : Int) := by omega
                    have hxl : ex ≤ 1152921504606846976 := by have := open_le HO.out; have h2 : (tB b k).length ≤ b.length := (by unfold tB; rw [List.length_take, List.length_drop]; omega); omega
                    clear hB hy4 hrow4 hy hex0
                    have ta1 : (Instr.typeAssert (.iface 149 (.pointer (some ⟨b4, 0, none⟩))) 44 149 true).run Try.prog w4 = .ok (.tuple #[.pointer (some ⟨b4, 0, none⟩), .bool true]) w4 := by kernel_rfl
                    have ta2 : ∀ W, (Instr.typeAssert (.iface 26 (.int .i64 (y : Nat))) 44 26 false).run Try.prog W = .ok (.int .i64 (y : Nat)) W := fun W => by kernel_rfl
                    go_upto_region 18 with fail
                    refine wp_region_quiet_tail (fun w' => ∃ n, w' = World.drewN _ n) 14 (by kernel_rfl) (by kernel_rfl) ⟨1, rfl⟩ ?_
                    simp only [List.take_succ_cons, List.take_zero, List.drop_succ_cons, List.drop_zero]
                    repeat (go_big_quiet_step (fail))
                    refine wpQuiet_nil ?_
                    rintro _ ⟨n1, rfl⟩
                    have hb5 := below_drewN HB34.out n1
                    generalize w4.drewN n1 = w5 at hb5 ⊢
                    have HB5 := Lib.hid hb5
                    clear hb5
                    go_wp2_with (go_at_call 56; (with_reducible refine (twrong_calls _ _ _).mono ?_); rintro e w9 ⟨b9, rfl, hb9, hr9, hbe9⟩; (have HR9 := Lib.hid hr9); (have HBE9 := Lib.hid hbe9); clear hr9 hbe9)
                    go_ret
                    exact LookR.mk (x := x) (y := y) (er := ((((y : Nat) : Int), ex) : Int × Nat)) HB5.out HBE9.out (fun _ => HO.out) (by rw [HU.out, HBB.out]; exact if_pos ⟨hk0, HY4.out⟩) HY4.out HR9.out
            case rest =>
              obtain ⟨hb4, x, y, hO, hL⟩ := hcut
              rename World => w4
              have HB4 := Lib.hid hb4
              have HO := Lib.hid hO
              have hU2 : lkE b k x y = lnS b k i := by rw [HU.out]; exact if_neg (fun h => h.2 (hL h.1))
              have hVV : 0 < k → tV b k = true := fun h => by
                cases hv : tV b k with
                | true => rfl
                | false => have := hL h; unfold lkB at this; rw [if_pos hv] at this; cases this
              have HU2 := Lib.hid hU2
              have HVV := Lib.hid hVV
              have c0 := C0.out w4 hb4
              clear hb4 hO hL hU2 hVV
              go_wp2_with fail
              go_loopw [135] (fun iv wr => ∃ (j : Nat), iv = .int .i64 (j : Nat) ∧ j ≤ i ∧ (lnS b k j).1 = 0 ∧ Below w.heap.size w wr) (fun iv _ => i - (intOf iv).toNat)
              case atStart => exact ⟨0, rfl, Nat.zero_le _, rfl, HB4.out⟩
              case round =>
                rename World => wr
                obtain ⟨j, rfl, hj, hz, hbr⟩ := hrel
                have HBR := Lib.hid hbr
                have HZ := Lib.hid hz
                have hzr := hbr.size
                have c3 := C3.out wr hbr
                clear hbr hz
                by_cases hji : j < i
                rotate_left
                · obtain rfl : j = i := by omega
                  go_wp2_with fail
                  go_ret
                  exact ⟨HBR.out, x, y, _, fun _ => HO.out (by assumption), rfl, .inl ⟨rfl, by rw [HU2.out, ln_zero HZ.out]; rfl, by rw [HU2.out, ln_zero HZ.out]⟩⟩
                · have hnum := tnumber_calls wr gd p wd pa pl pc pz (C1.out wr HBR.out) (C5.out wr HBR.out) (SP.out wr HBR.out) hwd2 j (by omega)
                  have htm : tM b k j = numF pz wd j := by unfold tM; rw [← HPZ.out, ← HWD.out]
                  obtain ⟨nv, hnv⟩ : ∃ nv, nv = tM b k j := ⟨_, rfl⟩
                  rw [← htm, ← hnv] at hnum
                  have HNUM := Lib.hid hnum
                  have HNV := Lib.hid hnv
                  have hok : ∀ X, Calls Try.prog 70 #[.int .i64 (k : Nat), .int .i64 (nv : Nat)] X fun e w' => e = .returned (.bool (okN k (nv : Nat))) ∧ w' = X := fun X => right_calls X k hk (nv : Nat)
                  have hstep : lnE b k j ≠ (0, 0) → (lnE b k j).1 ≠ 0 → lnS b k i = lnE b k j := fun _ h1 => by
                    have e1 : lnS b k (j + 1) = lnE b k j := by simp only [lnS]; rw [if_neg (by simp [HZ.out])]
                    rw [ln_stop b k (show j + 1 ≤ i by omega) (by rw [e1]; exact h1), e1]
                  have hgo : lnE b k j = (0, 0) → (lnS b k (j + 1)).1 = 0 := fun h1 => by simp only [lnS]; rw [if_neg (by simp [HZ.out]), h1]
                  have HST := Lib.hid hstep
                  have HGO := Lib.hid hgo
                  clear htm hnum hnv hstep hgo
                  cases hkn : okN k (nv : Nat) with
                  | false =>
                    rw [hkn] at hok
                    have HOK := Lib.hid hok
                    have hln : lnE b k j = (180, ea + 1) := by unfold lnE; rw [← HNV.out, if_pos hkn, ← HEA.out]
                    have HLN := Lib.hid hln
                    clear hok hkn hln
                    go_upto_region 25 with (go_at_call 62; refine HNUM.out.mono ?_; rintro e w5 ⟨rfl, m, hm⟩; (have HB5 := Lib.hid (show Below w.heap.size w w5 by rw [hm]; exact below_drewN HBR.out m)); clear hm)
                    have c3 := C3.out w5 HB5.out
                    have hz5 := HB5.out.size
                    go_wp2_with (first
                      | (go_at_call 70; (with_reducible refine (HOK.out _).mono ?_); rintro e w6 ⟨rfl, rfl⟩)
                      | (go_at_call 56; (with_reducible refine (twrong_calls _ _ _).mono ?_); rintro e w9 ⟨b9, rfl, hb9, hr9, hbe9⟩; (have HR9 := Lib.hid hr9); (have HBE9 := Lib.hid hbe9); clear hr9 hbe9))
                    go_ret
                    exact LookR.mk (x := x) (y := y) (er := (180, ea + 1)) HB5.out HBE9.out HO.out (by rw [HU2.out, HST.out (by rw [HLN.out]; simp) (by rw [HLN.out]; simp), HLN.out]) (by simp) HR9.out
                  | true =>
                    rw [hkn] at hok
                    have HOK := Lib.hid hok
                    have HKN := Lib.hid hkn
                    clear hok hkn
                    go_upto_region 25 with (go_at_call 62; refine HNUM.out.mono ?_; rintro e w5 ⟨rfl, m, hm⟩; (have HB5 := Lib.hid (show Below w.heap.size w w5 by rw [hm]; exact below_drewN HBR.out m)); clear hm)
                    clear c3
                    have c3 := C3.out w5 HB5.out
                    have hz5 := HB5.out.size
                    go_upto_region 27 with (go_at_call 70; (with_reducible refine (HOK.out _).mono ?_); rintro e w6 ⟨rfl, rfl⟩)
                    clear c3
                    by_cases hj0 : 0 < j
                    rotate_left
                    · have d1 : decide ((0 : Int) < (j : Int)) = false := decide_eq_false (by omega)
                      have hl0 : lnE b k j = (0, 0) := by unfold lnE; rw [← HNV.out, if_neg (by rw [HKN.out]; simp), if_neg (fun h => hj0 h.1)]
                      have HL0 := Lib.hid hl0
                      clear hl0
                      go_wp2_with fail
                      exact ⟨⟨j + 1, by go_num, by omega, HGO.out HL0.out, HB5.out⟩, by simp [intOf]; omega⟩
                    · have d1 : decide ((0 : Int) < (j : Int)) = true := decide_eq_true (by omega)
                      obtain ⟨jm, hjm0⟩ : ∃ jm, jm = j - 1 := ⟨_, rfl⟩
                      have hjm : (j : Int) - 1 = (jm : Nat) := by omega
                      obtain ⟨mv, hmv⟩ : ∃ mv, mv = tM b k (j - 1) := ⟨_, rfl⟩
                      have hnum2 := fun X (hX : Below w.heap.size w X) => tnumber_calls X gd p wd pa pl pc pz (C1.out _ hX) (C5.out _ hX) (SP.out _ hX) hwd2 jm (by omega)
                      have hmv2 : numF pz wd jm = mv := by rw [hmv, hjm0]; unfold tM; rw [← HPZ.out, ← HWD.out]
                      rw [hmv2] at hnum2
                      have HNUM2 := Lib.hid hnum2
                      have HMV := Lib.hid hmv
                      have HJM := Lib.hid hjm0
                      clear hnum2 hmv hmv2 hjm0
                      by_cases hk0 : k = 0
                      · have d3 : ((k : Int) == 0) = true := by simp [hk0]
                        have d4 : (k == 0) = true := by simp [hk0]
                        have HK0 := Lib.hid hk0
                        clear hk0
                        have HPR := Lib.hid (show k = 0 ∨ tBit b k (j - 1) = false from .inl HK0.out)
                        by_cases hle : nv ≤ mv
                        · have hln : lnE b k j = (160, ea + 1) := by unfold lnE; rw [← HNV.out, if_neg (by rw [HKN.out]; simp), if_pos ⟨hj0, HPR.out, by rw [← HMV.out]; exact hle⟩, ← HEA.out]
                          have HLN := Lib.hid hln
                          have dl : decide ((nv : Int) ≤ (mv : Int)) = true := decide_eq_true (by omega)
                          have dl2 : decide (nv ≤ mv) = true := decide_eq_true hle
                          clear hln
                          go_wp2_with (first | (go_at_call 62; (with_reducible refine (HNUM2.out _ HB5.out).mono ?_); rintro e w7 ⟨rfl, m2, hm2⟩; (have HB7 := Lib.hid (show Below w.heap.size w w7 by rw [hm2]; exact below_drewN HB5.out m2)); clear hm2; (have c3 := C3.out w7 HB7.out); (have hz7 := HB7.out.size)) | (go_at_call 56; (with_reducible refine (twrong_calls _ _ _).mono ?_); rintro e w9 ⟨b9, rfl, hb9, hr9, hbe9⟩; (have HR9 := Lib.hid hr9); (have HBE9 := Lib.hid hbe9); clear hr9 hbe9))
                          go_ret
                          exact LookR.mk (x := x) (y := y) (er := (160, ea + 1)) HB7.out HBE9.out HO.out (by rw [HU2.out, HST.out (by rw [HLN.out]; simp) (by rw [HLN.out]; simp), HLN.out]) (by simp) HR9.out
                        · have hl0 : lnE b k j = (0, 0) := by unfold lnE; rw [← HNV.out, if_neg (by rw [HKN.out]; simp), if_neg (fun h => hle (by rw [HMV.out]; exact h.2.2))]
                          have HL0 := Lib.hid hl0
                          have dl : decide ((nv : Int) ≤ (mv : Int)) = false := decide_eq_false (by omega)
                          have dl2 : decide (nv ≤ mv) = false := decide_eq_false hle
                          clear hl0
                          go_wp2_with (first | (go_at_call 62; (with_reducible refine (HNUM2.out _ HB5.out).mono ?_); rintro e w7 ⟨rfl, m2, hm2⟩; (have HB7 := Lib.hid (show Below w.heap.size w w7 by rw [hm2]; exact below_drewN HB5.out m2)); clear hm2; (have c3 := C3.out w7 HB7.out); (have hz7 := HB7.out.size)))
                          exact ⟨⟨j + 1, by go_num, by omega, HGO.out HL0.out, HB7.out⟩, by simp [intOf]; omega⟩
                      · have d3 : ((k : Int) == 0) = false := by simp [hk0]
                        have d4 : (k == 0) = false := by simp [hk0]
                        obtain ⟨gv, C7, HOB, HBIT⟩ := HVK.out (HVV.out (by omega))
                        have c7 := C7.out w6 HB5.out
                        have hbit := HBIT.out w6 HB5.out jm (by omega)
                        obtain ⟨bt, hbt⟩ : ∃ bt, bt = tBit b k jm := ⟨_, rfl⟩
                        rw [← hbt] at hbit
                        have HBI := Lib.hid hbit
                        have HBT := Lib.hid hbt
                        have HK0 := Lib.hid hk0
                        clear hbit hbt hk0
                        cases bt with
                        | true =>
                          have hl0 : lnE b k j = (0, 0) := by unfold lnE; rw [← HNV.out, if_neg (by rw [HKN.out]; simp), ← HJM.out, ← HBT.out, if_neg (fun h => h.2.1.elim HK0.out (by simp))]
                          have HL0 := Lib.hid hl0
                          clear hl0
                          go_wp2_with (go_at_call 94; (with_reducible refine HBI.out.mono ?_); rintro e w8 ⟨rfl, m1, hm1⟩; (have HB8 := Lib.hid (show Below w.heap.size w w8 by rw [hm1]; exact below_drewN HB5.out m1)); clear hm1)
                          exact ⟨⟨j + 1, by go_num, by omega, HGO.out HL0.out, HB8.out⟩, by simp [intOf]; omega⟩
                        | false =>
                          have HPR := Lib.hid (show k = 0 ∨ tBit b k (j - 1) = false from .inr (by rw [← HJM.out]; exact HBT.out.symm))
                          by_cases hle : nv ≤ mv
                          · have hln : lnE b k j = (160, ea + 1) := by unfold lnE; rw [← HNV.out, if_neg (by rw [HKN.out]; simp), if_pos ⟨hj0, HPR.out, by rw [← HMV.out]; exact hle⟩, ← HEA.out]
                            have HLN := Lib.hid hln
                            have dl : decide ((nv : Int) ≤ (mv : Int)) = true := decide_eq_true (by omega)
                            have dl2 : decide (nv ≤ mv) = true := decide_eq_true hle
                            clear hln
                            go_wp2_with (first | (go_at_call 94; (with_reducible refine HBI.out.mono ?_); rintro e w8 ⟨rfl, m1, hm1⟩; (have HB8 := Lib.hid (show Below w.heap.size w w8 by rw [hm1]; exact below_drewN HB5.out m1)); clear hm1) | (go_at_call 62; (with_reducible refine (HNUM2.out _ HB8.out).mono ?_); rintro e w7 ⟨rfl, m2, hm2⟩; (have HB7 := Lib.hid (show Below w.heap.size w w7 by rw [hm2]; exact below_drewN HB8.out m2)); clear hm2; (have c3 := C3.out w7 HB7.out); (have hz7 := HB7.out.size)) | (go_at_call 56; (with_reducible refine (twrong_calls _ _ _).mono ?_); rintro e w9 ⟨b9, rfl, hb9, hr9, hbe9⟩; (have HR9 := Lib.hid hr9); (have HBE9 := Lib.hid hbe9); clear hr9 hbe9))
                            go_ret
                            exact LookR.mk (x := x) (y := y) (er := (160, ea + 1)) HB7.out HBE9.out HO.out (by rw [HU2.out, HST.out (by rw [HLN.out]; simp) (by rw [HLN.out]; simp), HLN.out]) (by simp) HR9.out
                          · have hl0 : lnE b k j = (0, 0) := by unfold lnE; rw [← HNV.out, if_neg (by rw [HKN.out]; simp), if_neg (fun h => hle (by rw [HMV.out]; exact h.2.2))]
                            have HL0 := Lib.hid hl0
                            have dl : decide ((nv : Int) ≤ (mv : Int)) = false := decide_eq_false (by omega)
                            have dl2 : decide (nv ≤ mv) = false := decide_eq_false hle
                            clear hl0
                            go_wp2_with (first | (go_at_call 94; (with_reducible refine HBI.out.mono ?_); rintro e w8 ⟨rfl, m1, hm1⟩; (have HB8 := Lib.hid (show Below w.heap.size w w8 by rw [hm1]; exact below_drewN HB5.out m1)); clear hm1) | (go_at_call 62; (with_reducible refine (HNUM2.out _ HB8.out).mono ?_); rintro e w7 ⟨rfl, m2, hm2⟩; (have HB7 := Lib.hid (show Below w.heap.size w w7 by rw [hm2]; exact below_drewN HB8.out m2)); clear hm2; (have c3 := C3.out w7 HB7.out); (have hz7 := HB7.out.size)))
                            exact ⟨⟨j + 1, by go_num, by omega, HGO.out HL0.out, HB7.out⟩, by simp [intOf]; omega⟩
end Go.Proofs.Ytgajpekolamjbaa
/- tree.Open of any bytes. -/
namespace Go.Proofs.Ytgajpekolamjbaa
open Go Go.RowKit Go.Tk
/-- What Open says: View, then the levels, one by one. -/
def opT (b : List UInt8) (xs ys : Nat → Nat) : Nat → Int × Nat
  | 0 => vwE b
  | k + 1 => if (opT b xs ys k).1 ≠ 0 then opT b xs ys k else lkE b k (xs k) (ys k)
/-- What is known of the levels' vectors. -/
def opU (b : List UInt8) (xs ys : Nat → Nat) : Prop := ∀ k, k < 4 → (opT b xs ys k).1 = 0 → lkU b k → OpenR (tB b k) (xs k) (ys k)
theorem op_ext {b : List UInt8} {xs ys xs' ys' : Nat → Nat} : ∀ {k : Nat}, (∀ i, i < k → xs i = xs' i ∧ ys i = ys' i) → opT b xs ys k = opT b xs' ys' k
  | 0, _ => rfl
  | k + 1, h => by
    have h1 := op_ext (b := b) (k := k) (fun i hi => h i (by omega))
    have h2 := h k (by omega)
    simp only [opT]
    rw [h1, h2.1, h2.2]
theorem op_stop {b : List UInt8} {xs ys : Nat → Nat} {k j : Nat} (h : (opT b xs ys k).1 ≠ 0) (hj : k ≤ j) : opT b xs ys j = opT b xs ys k := by
  induction j with
  | zero => have : k = 0 := by omega
            subst this; rfl
  | succ j ih =>
    by_cases hk : k = j + 1
    · subst hk; rfl
    · have := ih (by omega)
      simp only [opT]
      rw [this, if_pos h]
/-- A level more. -/
def upF (f : Nat → Nat) (k x : Nat) (i : Nat) : Nat := if i = k then x else f i
theorem upF_at (f : Nat → Nat) (k x : Nat) : upF f k x k = x := if_pos rfl
theorem upF_ne (f : Nat → Nat) {k x i : Nat} (h : i ≠ k) : upF f k x i = f i := if_neg h
theorem op_up {b : List UInt8} {xs ys : Nat → Nat} {k x y : Nat} (h : (opT b xs ys k).1 = 0) : opT b (upF xs k x) (upF ys k y) (k + 1) = lkE b k x y := by
  simp only [opT]
  rw [op_ext (xs' := xs) (ys' := ys) (fun i hi => ⟨upF_ne _ (by omega), upF_ne _ (by omega)⟩), if_neg (by simp [h]), upF_at, upF_at]
/-- The levels before k. -/
def opK (b : List UInt8) (xs ys : Nat → Nat) (k : Nat) : Prop := (opT b xs ys k).1 = 0 ∧ ∀ j, j < k → lkU b j → OpenR (tB b j) (xs j) (ys j)
theorem opK.next {b : List UInt8} {xs ys : Nat → Nat} {k x y : Nat} (h : opK b xs ys k) (hx : lkU b k → OpenR (tB b k) x y) (h0 : (lkE b k x y).1 = 0) : opK b (upF xs k x) (upF ys k y) (k + 1) := by
  refine ⟨by rw [op_up h.1]; exact h0, fun j hj hu => ?_⟩
  by_cases hk : j = k
  · subst hk; rw [upF_at, upF_at]; exact hx hu
  · rw [upF_ne _ hk, upF_ne _ hk]; exact h.2 j (by omega) hu
theorem opK.fin {b : List UInt8} {xs ys : Nat → Nat} (h : opK b xs ys 4) : opU b xs ys := fun k hk _ hu => h.2 k hk hu
theorem opK.bad {b : List UInt8} {xs ys : Nat → Nat} {k x y : Nat} (h : opK b xs ys k) (hx : lkU b k → OpenR (tB b k) x y) (h0 : (lkE b k x y).1 ≠ 0) (hk : k < 4) : opU b (upF xs k x) (upF ys k y) ∧ opT b (upF xs k x) (upF ys k y) 4 = lkE b k x y := by
  have h1 : opT b (upF xs k x) (upF ys k y) (k + 1) = lkE b k x y := op_up h.1
  have h2 := fun {j : Nat} (hj : k + 1 ≤ j) => op_stop (b := b) (xs := upF xs k x) (ys := upF ys k y) (k := k + 1) (j := j) (by rw [h1]; exact h0) hj
  refine ⟨fun j hj hz hu => ?_, by rw [h2 (by omega), h1]⟩
  by_cases hjk : j = k
  · subst hjk; rw [upF_at, upF_at]; exact hx hu
  by_cases hlt : j < k
  · rw [upF_ne _ hjk, upF_ne _ hjk]; exact h.2 j hlt hu
  · rw [h2 (by omega), h1] at hz; exact absurd hz h0
/-- What Open hands back. -/
def OpenO (w : World) (b : List UInt8) (a : Option Addr) (cap : Nat) (e : Ending) (w' : World) : Prop := ∃ xs ys, opU b xs ys ∧ OpenT w b a cap (opT b xs ys 4) e w'
set_option maxRecDepth 100000 in
set_option maxHeartbeats 3000000 in
theorem topen_calls (w : World) (b : List UInt8) (a : Option Addr) (cap : Nat) (hs : SlI .u8 w a b.length cap (nums b)) (hn : a = none → cap = 0) (ha : ∀ x, a = some x → x.block < w.heap.size) (hlen : b.length ≤ 140737488355328) :
    Calls Try.prog 16 #[.slice a b.length cap] w (OpenO w b a cap) := by
  have hv := tview_calls w a cap b hs hn ha hlen
  have HV := Lib.hid hv
  clear hv hs hn ha
  go_enter Try.func16, Try.ntmps16
  by_cases he : (vwE b).1 = 0
  rotate_left
  · have HE := Lib.hid he
    clear he
    go_wp2_with (go_at_call 17; (with_reducible refine HV.out.mono ?_); rintro e w1 ⟨hb1, h1⟩; obtain ⟨v, rfl, hev⟩ := h1.elim (fun h => h.2) (fun h => absurd h.1 HE.out); obtain ⟨b9, rfl⟩ := hev.some HE.out; (have HB1 := Lib.hid hb1); (have HEV := Lib.hid hev); clear h1 hb1 hev)
    go_ret2
    refine ⟨fun _ => 0, fun _ => 0, fun k _ hz _ => ?_, HB1.out, .inl ⟨?_, _, rfl, ?_⟩⟩
    · have h := op_stop (b := b) (xs := fun _ => 0) (ys := fun _ => 0) (k := 0) (j := k) HE.out (Nat.zero_le _)
      rw [h] at hz
      exact absurd hz HE.out
    · rw [op_stop (k := 0) HE.out (Nat.zero_le _)]; exact HE.out
    · rw [op_stop (k := 0) HE.out (Nat.zero_le _)]; exact HEV.out
  · have HE := Lib.hid he
    clear he
    go_wp2_with (go_at_call 17; (with_reducible refine HV.out.mono ?_); rintro e w1 ⟨hb1, h1⟩; obtain ⟨gd, vp, hgd, rfl, hT⟩ := h1.elim (fun h => absurd HE.out h.1) (fun h => h.2); (have HB1 := Lib.hid hb1); (have HT := Lib.hid hT); (have hz1 := hb1.size); clear h1 hb1 hT)
    go_loopw [16] (fun iv wr => ∃ (k : Nat) (xs ys : Nat → Nat), iv = .int .i64 (k : Nat) ∧ k ≤ 4 ∧ opK b xs ys k ∧ Below w1.heap.size w1 wr) (fun iv _ => 4 - (intOf iv).toNat)
    case atStart => exact ⟨0, fun _ => 0, fun _ => 0, rfl, by omega, ⟨HE.out, fun j hj => absurd hj (by omega)⟩, Below.refl _ _⟩
    case round =>
      rename World => wr
      obtain ⟨k, xs, ys, rfl, hk, hK, hbr⟩ := hrel
      have HK := Lib.hid hK
      have HBR := Lib.hid hbr
      have hzr := hbr.size
      clear hK hbr
      by_cases hk4 : k < 4
      rotate_left
      · obtain rfl : k = 4 := by omega
        go_wp2_with fail
        go_ret2
        exact ⟨xs, ys, HK.out.fin, HB1.out.trans (HBR.out.mono hz1), .inr ⟨HK.out.1, gd, vp, hgd, rfl, HT.out.below HBR.out⟩⟩
      · have hlk := look_calls wr gd b a cap vp (HT.out.below HBR.out) hlen k hk4 (k * 8) rfl
        have HL := Lib.hid hlk
        clear hlk
        go_upto_region 8 with (go_at_call 52; (with_reducible refine HL.out.mono ?_); rintro e w2 ⟨hb2, x, y, v, hx, rfl, hev⟩; (have HB2 := Lib.hid (HBR.out.trans (hb2.mono hzr))); (have HX := Lib.hid hx); (have HEV := Lib.hid hev); clear hb2 hx hev)
        by_cases h0 : (lkE b k x y).1 = 0
        · have hv : v = .nilIface := by have := HEV.out; rw [h0] at this; exact this.none
          subst hv
          have HKN := Lib.hid (HK.out.next HX.out h0)
          clear h0
          go_wp2_with fail
          exact ⟨⟨k + 1, _, _, by go_num, by omega, HKN.out, HB2.out⟩, by simp [intOf]; omega⟩
        · obtain ⟨b9, rfl⟩ := HEV.out.some h0
          have HBAD := Lib.hid (HK.out.bad HX.out h0 hk4)
          have H0 := Lib.hid h0
          clear h0
          go_wp2_with fail
          go_ret2
          exact ⟨_, _, HBAD.out.1, HB1.out.trans (HB2.out.mono hz1), .inl ⟨by rw [HBAD.out.2]; exact H0.out, _, rfl, by rw [HBAD.out.2]; exact HEV.out⟩⟩
end Go.Proofs.Ytgajpekolamjbaa
/- A viewed tree: its cells, numbers and ranks; Len. -/
namespace Go.Proofs.Ytgajpekolamjbaa
open Go Go.RowKit Go.Tk
section
variable {w : World} {gd : Nat} {b : List UInt8} {a : Option Addr} {cap : Nat} {vp : Nat → Option Addr}
theorem TreeM.lv (hT : TreeM w gd b a cap vp) : (lvE b 4).1 = 0 := by
  have h := hT.ok
  unfold vwE at h
  by_cases h1 : (lvE b 4).1 ≠ 0
  · rw [if_pos h1] at h; rw [h]
  · exact Classical.not_not.1 h1
theorem TreeM.nk (hT : TreeM w gd b a cap vp) {k : Nat} (hk : k < 4) : tN b k ≤ 1048576 := ((lv_ok hT.lv).2.1 k hk).le
theorem TreeM.wd (hT : TreeM w gd b a cap vp) {k : Nat} (hk : k < 4) : tW b k ≤ 23 := ((lv_ok hT.lv).2.2 k hk).wd
theorem TreeM.fit (hT : TreeM w gd b a cap vp) {k : Nat} (hk : k < 4) : tA b (k + 1) ≤ b.length := ((lv_ok hT.lv).2.2 k hk).en
theorem TreeM.at (hT : TreeM w gd b a cap vp) {k p f : Nat} (hk : k < 4) (hp : p = k * 8) (hf : f < 8) : w.cell? ⟨gd, p + f, none⟩ = some (lvc b a cap (vp k) k f) := by
  have := RowC.cell hT.row (i := k * 8 + f) (by omega)
  rw [hp, this]
  unfold tvC
  rw [if_pos (by omega), show (k * 8 + f) / 8 = k by omega, show (k * 8 + f) % 8 = f by omega]
theorem TreeM.c0 (hT : TreeM w gd b a cap vp) {k p : Nat} (hk : k < 4) (hp : p = k * 8) : w.cell? ⟨gd, p, none⟩ = some (.int .i64 (tN b k : Nat)) := hT.at hk hp (f := 0) (by omega)
theorem TreeM.c7 (hT : TreeM w gd b a cap vp) {k p : Nat} (hk : k < 4) (hp : p = k * 8) : w.cell? ⟨gd, p + 7, none⟩ = some (.pointer (vp k)) := hT.at hk hp (f := 7) (by omega)
theorem TreeM.sp (hT : TreeM w gd b a cap vp) {k : Nat} (hk : k < 4) : SlI .u8 w (slA a cap (tA b k + 1)) (tE b k - (tA b k + 1)) (cap - (tA b k + 1)) (nums (tP b k)) := by
  have h1 := tX_ge b k
  have h2 := hT.fit hk
  have h3 := tE_ge b k
  obtain ⟨pl, hpl⟩ : ∃ pl, pl = tE b k - (tA b k + 1) := ⟨_, rfl⟩
  have := hT.sl.cut (tA b k + 1) pl (by rw [hpl]; omega)
  rw [show tA b k + 1 + pl - (tA b k + 1) = pl by omega] at this
  unfold tP slA
  rw [← hpl]
  have e : ((nums b).drop (tA b k + 1)).take pl = nums ((b.drop (tA b k + 1)).take pl) := by simp [nums, List.map_drop, List.map_take]
  rw [← e]; exact this
theorem tnum_calls (hT : TreeM w gd b a cap vp) {k p : Nat} (hk : k < 4) (hp : p = k * 8) (i : Nat) (hi : i ≤ 2097152) :
    Calls Try.prog 62 #[.pointer (some ⟨gd, p, none⟩), .int .i64 (i : Nat)] w fun e w' => e = .returned (.int .i64 (tM b k i : Nat)) ∧ ∃ m, w' = w.drewN m :=
  tnumber_calls w gd p (tW b k) _ _ _ (tP b k) (hT.at hk hp (f := 1) (by omega)) (hT.at hk hp (f := 5) (by omega)) (hT.sp hk) (hT.wd hk) i hi
/-- Rank and Select of a level's vector. -/
def rkT (b : List UInt8) (k : Nat) (i : Int) : Nat := rankV (tB b k) (tN b k) (tN b (k - 1)) i
def slT (b : List UInt8) (k : Nat) (i : Int) : Int := selV (fun j => rkT b k (j : Nat)) (tN b k) i (tN b (k - 1))
theorem TreeM.vc (hT : TreeM w gd b a cap vp) {k : Nat} (hk : k < 4) (hv : tV b k = true) : ∃ gv, vp k = some ⟨gv, 0, none⟩ ∧ VecAt w gv (slA a cap (tE b k)) (cap - tE b k) (tB b k) (tN b k) (tN b (k - 1)) := (hT.vec k hk).1 hv
theorem TreeM.vn (hT : TreeM w gd b a cap vp) {k : Nat} (hk : k < 4) (hv : tV b k = false) : vp k = none := (hT.vec k hk).2 hv
theorem tlen_calls (hT : TreeM w gd b a cap vp) : Calls Try.prog 22 #[.pointer (some ⟨gd, 0, none⟩)] w fun e w' => e = .returned (.int .i64 (tN b 3 : Nat)) ∧ w' = w := by
  have c0 := hT.c0 (k := 3) (p := 24) (by omega) rfl
  generalize tN b 3 = N at c0 ⊢
  clear hT
  go_enter Try.func22, Try.ntmps22
  go_wp2_with fail
  go_ret
  exact ⟨rfl, rfl⟩
end
end Go.Proofs.Ytgajpekolamjbaa
/- children and start of a viewed tree of any bytes. -/
namespace Go.Proofs.Ytgajpekolamjbaa
open Go Go.RowKit Go.Tk
/-- Select and one. -/
def slN (b : List UInt8) (k : Nat) (i : Nat) : Nat := (slT b k (i : Nat) + 1).toNat
theorem slN_eq (b : List UInt8) (k i : Nat) : slT b k (i : Nat) = (slN b k i : Nat) - 1 := by
  have h : -1 ≤ slT b k (i : Nat) := by unfold slT selV; split <;> omega
  unfold slN; omega
theorem slN_le (b : List UInt8) (k i : Nat) : slN b k i ≤ tN b k + 1 := by
  have h : slT b k (i : Nat) ≤ tN b k := by
    unfold slT selV
    split
    · omega
    · have := (srch_bd (fun j => ((rkT b k (j : Nat) : Nat) : Int)) (i : Nat) (tN b k) 0 (tN b k - 1) (Nat.zero_le _)).2
      omega
  unfold slN; omega
/-- The entries below an entry. -/
def chL (b : List UInt8) (k j : Nat) : Nat := if tV b (k + 1) = false then 0 else if 0 < j then slN b (k + 1) (j - 1) else 0
def chH (b : List UInt8) (k j : Nat) : Nat := if tV b (k + 1) = false then 0 else max (chL b k j) (slN b (k + 1) j)
/-- The first quad below an entry: how many levels are left. -/
def stR (b : List UInt8) : Nat → Nat → Nat
  | 0, j => min j (tN b 3)
  | m + 1, j => if tN b (2 - m) ≤ j then tN b 3 else stR b m (chL b (2 - m) j)
theorem chL_le (b : List UInt8) (k j : Nat) : chL b k j ≤ tN b (k + 1) + 1 := by
  unfold chL; split
  · omega
  split
  · exact slN_le _ _ _
  · omega
theorem chH_le (b : List UInt8) (k j : Nat) : chH b k j ≤ tN b (k + 1) + 1 := by
  have h1 := chL_le b k j
  have h2 := slN_le b (k + 1) j
  unfold chH; split <;> omega
section
variable {w : World} {gd : Nat} {b : List UInt8} {a : Option Addr} {cap : Nat} {vp : Nat → Option Addr}
set_option maxRecDepth 100000 in
theorem tchild_calls (hT : TreeM w gd b a cap vp) (k : Nat) (hk : k < 3) (j : Nat) (hj : j ≤ 2097152) :
    Calls Try.prog 66 #[.pointer (some ⟨gd, 0, none⟩), .int .i64 (k : Nat), .int .i64 (j : Nat)] w fun e w' => e = .returned (.tuple #[.int .i64 (chL b k j : Nat), .int .i64 (chH b k j : Nat)]) ∧ ∃ q, w' = w.drewN q := by
  obtain ⟨k1, hk1⟩ : ∃ k1, k1 = k + 1 := ⟨_, rfl⟩
  have hkk : (k : Int) + 1 = (k1 : Nat) := by omega
  have hk4 : k1 < 4 := by omega
  have c7 := hT.c7 hk4 rfl
  have hL : chL b k j = if tV b k1 = false then 0 else if 0 < j then slN b k1 (j - 1) else 0 := by rw [hk1]; rfl
  have hH : chH b k j = if tV b k1 = false then 0 else max (chL b k j) (slN b k1 j) := by rw [hk1]; rfl
  obtain ⟨L, hLL⟩ : ∃ L, L = chL b k j := ⟨_, rfl⟩
  obtain ⟨H, hHH⟩ : ∃ H, H = chH b k j := ⟨_, rfl⟩
  rw [← hLL] at hL hH ⊢
  rw [← hHH] at hH ⊢
  cases hv : tV b k1 with
  | false =>
    rw [hT.vn hk4 hv] at c7
    rw [hv] at hL hH
    obtain rfl : L = 0 := hL
    obtain rfl : H = 0 := hH
    clear hLL hHH hT hv hk1
    go_enter Try.func66, Try.ntmps66
    go_wp2_with fail
    go_ret2
    exact ⟨rfl, 0, rfl⟩
  | true =>
    obtain ⟨gv, hgv, hvc⟩ := hT.vc hk4 hv
    have hc7 : ∀ q, (w.drewN q).cell? ⟨gd, k1 * 8 + 7, none⟩ = some (.pointer (some ⟨gv, 0, none⟩)) := fun q => by have := (hT.below (below_drewN (Below.refl _ _) q)).c7 hk4 rfl; rw [hgv] at this; exact this
    have hsel : ∀ (i : Nat) q, i ≤ 2097152 → Calls Try.prog 104 #[.pointer (some ⟨gv, 0, none⟩), .int .i64 (i : Nat)] (w.drewN q) fun e w' => e = .returned (.int .i64 ((slN b k1 i : Nat) - 1)) ∧ ∃ m, w' = (w.drewN q).drewN m := fun i q hi => by
      have := select_calls (hvc.below8 (below_drewN (Below.refl _ w) q)) (i : Nat) (by omega)
      rw [← slN_eq]
      exact this
    rw [hgv] at c7
    rw [hv] at hL hH
    simp only [Bool.true_eq_false, if_false] at hL hH
    have hs2 := hsel j
    have hs3 := hsel (j - 1)
    have hb1 := slN_le b k1 j
    have hb2 := slN_le b k1 (j - 1)
    have hnk := hT.nk hk4
    generalize slN b k1 j = s1 at hs2 hH hb1
    generalize slN b k1 (j - 1) = s0 at hs3 hL hb2
    have HS2 := Lib.hid hs2
    have HS3 := Lib.hid hs3
    have HC7 := Lib.hid hc7
    by_cases hj0 : 0 < j
    · rw [if_pos hj0] at hL
      have HL := Lib.hid hL
      have HH := Lib.hid hH
      obtain ⟨jm, hjm⟩ : ∃ jm, jm = j - 1 := ⟨_, rfl⟩
      have hji : (j : Int) - 1 = (jm : Nat) := by omega
      rw [← hjm] at hs3
      have HS4 := Lib.hid hs3
      have d1 : decide ((0 : Int) < (j : Int)) = true := decide_eq_true (by omega)
      clear hL hH hs2 hs3 HS3 hc7 hsel hv hvc hgv hT hk1 hLL hHH hjm
      go_enter Try.func66, Try.ntmps66
      go_wp2_with fail
      go_at_call 104
      refine (HS4.out 0 (by omega)).mono ?_
      rintro e w1 ⟨rfl, m1, rfl⟩
      have c7' := HC7.out m1
      go_wp2_with fail
      go_at_call 104
      refine (HS2.out m1 hj).mono ?_
      rintro e w2 ⟨rfl, m2, rfl⟩
      go_wp2_with fail
      go_ret2
      refine ⟨?_, m1 + m2, by simp [World.drewN, Nat.add_assoc]⟩
      have e1 : (L : Int) = s0 := by rw [HL.out]
      have e2 : ((H : Nat) : Int) = max (s0 : Int) s1 := by rw [HH.out, HL.out]; omega
      rw [e1, e2]
      rfl
    · rw [if_neg hj0] at hL
      have HL := Lib.hid hL
      have HH := Lib.hid hH
      have d1 : decide ((0 : Int) < (j : Int)) = false := decide_eq_false (by omega)
      clear hL hH hs2 hs3 HS3 hc7 hsel hv hvc hgv hT hk1 hLL hHH
      go_enter Try.func66, Try.ntmps66
      go_wp2_with fail
      go_at_call 104
      refine (HS2.out 0 hj).mono ?_
      rintro e w2 ⟨rfl, m2, rfl⟩
      go_wp2_with fail
      go_ret2
      refine ⟨?_, m2, rfl⟩
      have e1 : (L : Int) = 0 := by rw [HL.out]; rfl
      have e2 : ((H : Nat) : Int) = (s1 : Int) := by rw [HH.out, HL.out]; omega
      rw [e1, e2]
      rfl
set_option maxRecDepth 100000 in
theorem tstart_calls (hT : TreeM w gd b a cap vp) (k : Nat) (hk : k ≤ 3) (j : Nat) (hj : j ≤ 2097152) :
    Calls Try.prog 65 #[.pointer (some ⟨gd, 0, none⟩), .int .i64 (k : Nat), .int .i64 (j : Nat)] w fun e w' => e = .returned (.int .i64 (stR b (3 - k) j : Nat)) ∧ ∃ q, w' = w.drewN q := by
  obtain ⟨S, hS⟩ : ∃ S, S = stR b (3 - k) j := ⟨_, rfl⟩
  rw [← hS]
  have HT := Lib.hid hT
  have HS := Lib.hid hS
  clear hT hS
  go_enter Try.func65, Try.ntmps65
  go_wp2_with fail
  go_loopw [1, 2] (fun kv jv wr => ∃ (k j : Nat), kv = .int .i64 (k : Nat) ∧ jv = .int .i64 (j : Nat) ∧ k ≤ 3 ∧ j ≤ 2097152 ∧ stR b (3 - k) j = S ∧ ∃ q, wr = w.drewN q) (fun kv _ _ => 3 - (intOf kv).toNat)
  case atStart => exact ⟨k, j, rfl, rfl, hk, hj, HS.out.symm, 0, rfl⟩
  case round =>
    rename World => wr
    obtain ⟨k, j, rfl, rfl, hk, hj, hs, q, rfl⟩ := hrel
    have HSS := Lib.hid hs
    have hTq := HT.out.below (below_drewN (Below.refl _ w) q)
    have HTQ := Lib.hid hTq
    have HLEN := Lib.hid (tlen_calls hTq)
    clear hs hTq
    obtain ⟨N3, hN3⟩ : ∃ N3, N3 = tN b 3 := ⟨_, rfl⟩
    have hTL2 := HLEN.out
    rw [← hN3] at hTL2
    have HTL2 := Lib.hid hTL2
    have HN3 := Lib.hid hN3
    clear hTL2 hN3
    by_cases hk3 : k < 3
    rotate_left
    · obtain rfl : k = 3 := by omega
      go_wp2_with ((go_at_call 22; (with_reducible refine HTL2.out.mono ?_); rintro e w2 ⟨rfl, rfl⟩))
      go_ret
      refine ⟨?_, q, rfl⟩
      have e1 : ((S : Nat) : Int) = min (j : Int) N3 := by rw [← HSS.out, HN3.out]; simp only [Nat.sub_self, stR]; omega
      rw [e1]
      rfl
    · obtain ⟨nk, hnk⟩ : ∃ nk, nk = tN b k := ⟨_, rfl⟩
      have hnk2 : nk ≤ 1048576 := by rw [hnk]; exact HT.out.nk (by omega)
      have c0 := HTQ.out.c0 (k := k) (p := k * 8) (by omega) rfl
      rw [← hnk] at c0
      have hst : S = if nk ≤ j then N3 else stR b (3 - (k + 1)) (chL b k j) := by
        rw [← HSS.out, show 3 - k = (2 - k) + 1 by omega, hnk, HN3.out]
        simp only [stR]
        rw [show 2 - (2 - k) = k by omega, show 2 - k = 3 - (k + 1) by omega]
      have HST := Lib.hid hst
      clear hnk hst
      by_cases hle : nk ≤ j
      · have d1 : decide ((nk : Int) ≤ (j : Int)) = true := decide_eq_true (by omega)
        have d2 : decide (nk ≤ j) = true := decide_eq_true hle
        go_wp2_with ((go_at_call 22; (with_reducible refine HTL2.out.mono ?_); rintro e w2 ⟨rfl, rfl⟩))
        go_ret
        exact ⟨by rw [HST.out, if_pos hle]; rfl, q, rfl⟩
      · have d1 : decide ((nk : Int) ≤ (j : Int)) = false := decide_eq_false (by omega)
        have d2 : decide (nk ≤ j) = false := decide_eq_false hle
        have hch := tchild_calls HTQ.out k hk3 j hj
        have hcl : chL b k j ≤ 2097152 := by have h1 := chL_le b k j; have h2 := HT.out.nk (k := k + 1) (by omega); omega
        have HCH := Lib.hid hch
        clear hch
        have HS2 := Lib.hid (show stR b (3 - (k + 1)) (chL b k j) = S by rw [HST.out, if_neg hle])
        go_wp2_with ((go_at_call 66; (with_reducible refine HCH.out.mono ?_); rintro e w2 ⟨rfl, m2, rfl⟩))
        exact ⟨⟨k + 1, chL b k j, by go_num, rfl, by omega, hcl, HS2.out, q + m2, by simp [World.drewN, Nat.add_assoc]⟩, by simp [intOf]; omega⟩
end
end Go.Proofs.Ytgajpekolamjbaa
/- Get of a viewed tree of any bytes. -/
namespace Go.Tk
open Go Go.RowKit
theorem results_rt18 {P : Program} {fn : Func} {p q : Tmp} {ty : TypeId} (h : fn.results = #[.cell p ty, .tmp q]) (tmps : Array Value) (w : World) (g : Nat) (t : TypeId) (cs : Array Value) (fr : Nat × Nat) (d : TypeDesc)
    (hp : tmps.getD p undef = .pointer (some ⟨g, 0, none⟩)) (hg : w.heap[g]? = some (.cells cs t fr))
    (hu : P.underlying ty = some d) (hd : (match d with | .struct _ | .array _ _ => true | _ => false) = true) (hi : (P.info? ty).map (·.size) = some cs.size) :
    (results fn tmps).run P w = .ok (.tuple #[.agg cs, tmps.getD q undef]) w := by
  have hp' : tmps[p]?.getD undef = .pointer (some ⟨g, 0, none⟩) := by simpa using hp
  simp [results, h, hp', asAddr, run_loadVar_row w g t ty cs fr d hg hu hd hi]
end Go.Tk
namespace Go.Proofs.Ytgajpekolamjbaa
open Go Go.RowKit Go.Tk
/-- The numbers of a quad, as Get hands them. -/
def ids (q : Nat → Nat) (i : Nat) : Value := .int .i64 (q i : Nat)
def idZ : Nat → Nat := fun _ => 0
theorem ids_one (q : Nat → Nat) : (rowC 4 (ids q)).all (·.oneCell') = true := by simp [rowC, ids, Value.oneCell', List.range, List.range.loop]
theorem ids_size (q : Nat → Nat) : (rowC 4 (ids q)).size = 4 := by simp [rowC]
theorem idZ_eq : rowC 4 (ids idZ) = #[.int .i64 0, .int .i64 0, .int .i64 0, .int .i64 0] := rfl
/-- Get from a level downwards: how many levels are left, the entry there, what was read. -/
def gR (b : List UInt8) : Nat → Nat → (Nat → Nat) → Option (Nat → Nat)
  | 0, _, q => some q
  | k + 1, i, q => if tN b k ≤ i ∨ (0 < k ∧ tV b k = false) then none else gR b k (if 0 < k then rkT b k i else i) (upF q k (tM b k i))
def getT (b : List UInt8) (i : Int) : Option (Nat → Nat) := if i < 0 ∨ (tN b 3 : Nat) ≤ i then none else gR b 4 i.toNat idZ
/-- What Get hands back. -/
def GetR (w : World) (r : Option (Nat → Nat)) (e : Ending) (w' : World) : Prop :=
  Below w.heap.size w w' ∧ e = .returned (.tuple #[.agg (rowC 4 (ids (r.getD idZ))), .bool r.isSome])
theorem ids_up (q : Nat → Nat) (k x : Nat) : setF (ids q) k (.int .i64 (x : Nat)) = ids (upF q k x) := by
  funext i
  unfold setF ids upF
  split <;> rfl
def z4 (W : World) (g : Nat) : World := (((W.setCell ⟨g, 0, none⟩ (.int .i64 0)).setCell ⟨g, 1, none⟩ (.int .i64 0)).setCell ⟨g, 2, none⟩ (.int .i64 0)).setCell ⟨g, 3, none⟩ (.int .i64 0)
theorem z4_row {W : World} {g : Nat} (h : RowC W g 4 24 (ids idZ)) : RowC (z4 W g) g 4 24 (ids idZ) := by
  have h4 := (((h.set 0 (.int .i64 0)).set 1 (.int .i64 0)).set 2 (.int .i64 0)).set 3 (.int .i64 0)
  have e : setF (setF (setF (setF (ids idZ) 0 (.int .i64 0)) 1 (.int .i64 0)) 2 (.int .i64 0)) 3 (.int .i64 0) = ids idZ := by
    funext i
    unfold setF ids idZ
    repeat (first | rfl | (split))
  rw [e] at h4
  exact h4
theorem z4_below {w W : World} (h : Below w.heap.size w W) : Below w.heap.size w (z4 W w.heap.size) :=
  (((h.setCell (p := ⟨w.heap.size, 0, none⟩) (Nat.le_refl _) _).setCell (p := ⟨w.heap.size, 1, none⟩) (Nat.le_refl _) _).setCell (p := ⟨w.heap.size, 2, none⟩) (Nat.le_refl _) _).setCell (p := ⟨w.heap.size, 3, none⟩) (Nat.le_refl _) _
set_option maxRecDepth 100000 in
set_option maxHeartbeats 3000000 in
theorem tget_calls (w : World) (gd : Nat) (b : List UInt8) (a : Option Addr) (cap : Nat) (vp : Nat → Option Addr) (hT : TreeM w gd b a cap vp) (i : Int) (hi : -9223372036854775808 ≤ i ∧ i ≤ 9223372036854775807) :
    Calls Try.prog 23 #[.pointer (some ⟨gd, 0, none⟩), .int .i64 i] w (GetR w (getT b i)) := by
  have hlt := hT.row.lt
  have HT := Lib.hid hT
  have SZ := Lib.hid Try.sizeIds
  obtain ⟨G, hG⟩ : ∃ G, G = getT b i := ⟨_, rfl⟩
  rw [← hG]
  have HG := Lib.hid hG
  have hB1 : Below w.heap.size w (w.alloc (.cells #[.int .i64 0, .int .i64 0, .int .i64 0, .int .i64 0] 24)) := (Below.refl _ _).alloc (Nat.le_refl _) _
  have hg4 : RowC (w.alloc (.cells #[.int .i64 0, .int .i64 0, .int .i64 0, .int .i64 0] 24)) w.heap.size 4 24 (ids idZ) := heap_alloc_new w (.cells #[.int .i64 0, .int .i64 0, .int .i64 0, .int .i64 0] 24)
  have hz1 : w.heap.size < (w.alloc (.cells #[.int .i64 0, .int .i64 0, .int .i64 0, .int .i64 0] 24)).heap.size := by simp
  clear hG hT
  go_enter Try.func23, Try.ntmps23
  go_upto_region 1 with fail
  generalize w.alloc (.cells #[.int .i64 0, .int .i64 0, .int .i64 0, .int .i64 0] 24) = w1 at hB1 hg4 hz1 ⊢
  have HB1 := Lib.hid hB1
  have HG4 := Lib.hid hg4
  have HTL := Lib.hid (tlen_calls (HT.out.below hB1))
  clear hB1 hg4
  have hfin : ∀ (W : World), Below w.heap.size w W → RowC W w.heap.size 4 24 (ids idZ) → RowC (z4 W w.heap.size) w.heap.size 4 24 (ids idZ) ∧ Below w.heap.size w (z4 W w.heap.size) := fun W h1 h2 => ⟨z4_row h2, z4_below h1⟩
  have FIN := Lib.hid hfin
  clear hfin
  by_cases h0 : i < 0
  · have d0 : decide (i < 0) = true := decide_eq_true h0
    have HGN := Lib.hid (show G = none by rw [HG.out]; unfold getT; exact if_pos (.inl h0))
    obtain ⟨n1, n2⟩ := FIN.out w1 HB1.out HG4.out
    have z0 : w1.cell? ⟨w.heap.size, 0, none⟩ = some (.int .i64 0) := RowC.cell HG4.out (i := 0) (by omega)
    have z1 : w1.cell? ⟨w.heap.size, 1, none⟩ = some (.int .i64 0) := RowC.cell HG4.out (i := 1) (by omega)
    have z2 : w1.cell? ⟨w.heap.size, 2, none⟩ = some (.int .i64 0) := RowC.cell HG4.out (i := 2) (by omega)
    have z3 : w1.cell? ⟨w.heap.size, 3, none⟩ = some (.int .i64 0) := RowC.cell HG4.out (i := 3) (by omega)
    have y0 := RowC.frozen HG4.out 0
    have y1 := RowC.frozen HG4.out 1
    have y2 := RowC.frozen HG4.out 2
    have y3 := RowC.frozen HG4.out 3
    have HN1 := Lib.hid n1
    have HN2 := Lib.hid n2
    clear n1 n2 h0
    go_wp2_with fail
    try simp only [Exit.inBlock, Exit.then]
    refine bodyPost_ret (results_rt18 rfl _ _ w.heap.size _ _ _ _ rfl HN1.out Try.underlying24 rfl SZ.out) rfl ⟨HN2.out, ?_⟩
    rw [HGN.out]; rfl
  · have d0 : decide (i < 0) = false := decide_eq_false h0
    obtain ⟨i0, rfl⟩ : ∃ i0 : Nat, i = i0 := ⟨i.toNat, by omega⟩
    obtain ⟨N3, hN3⟩ : ∃ N3, N3 = tN b 3 := ⟨_, rfl⟩
    have hTL2 := HTL.out
    rw [← hN3] at hTL2
    have HTL2 := Lib.hid hTL2
    have HN3 := Lib.hid hN3
    clear hTL2 hN3
    by_cases h1 : N3 ≤ i0
    · have d1 : decide ((N3 : Int) ≤ (i0 : Int)) = true := decide_eq_true (by omega)
      have d2 : decide (N3 ≤ i0) = true := decide_eq_true h1
      have HGN := Lib.hid (show G = none by rw [HG.out]; unfold getT; exact if_pos (.inr (by rw [← HN3.out]; omega)))
      obtain ⟨n1, n2⟩ := FIN.out w1 HB1.out HG4.out
      have z0 : w1.cell? ⟨w.heap.size, 0, none⟩ = some (.int .i64 0) := RowC.cell HG4.out (i := 0) (by omega)
      have z1 : w1.cell? ⟨w.heap.size, 1, none⟩ = some (.int .i64 0) := RowC.cell HG4.out (i := 1) (by omega)
      have z2 : w1.cell? ⟨w.heap.size, 2, none⟩ = some (.int .i64 0) := RowC.cell HG4.out (i := 2) (by omega)
      have z3 : w1.cell? ⟨w.heap.size, 3, none⟩ = some (.int .i64 0) := RowC.cell HG4.out (i := 3) (by omega)
      have y0 := RowC.frozen HG4.out 0
      have y1 := RowC.frozen HG4.out 1
      have y2 := RowC.frozen HG4.out 2
      have y3 := RowC.frozen HG4.out 3
      have HN1 := Lib.hid n1
      have HN2 := Lib.hid n2
      clear n1 n2 h1 h0
      go_wp2_with ((go_at_call 22; (with_reducible refine HTL2.out.mono ?_); rintro e w2 ⟨rfl, rfl⟩))
      try simp only [Exit.inBlock, Exit.then]
      refine bodyPost_ret (results_rt18 rfl _ _ w.heap.size _ _ _ _ rfl HN1.out Try.underlying24 rfl SZ.out) rfl ⟨HN2.out, ?_⟩
      rw [HGN.out]; rfl
    · have d1 : decide ((N3 : Int) ≤ (i0 : Int)) = false := decide_eq_false (by omega)
      have d2 : decide (N3 ≤ i0) = false := decide_eq_false h1
      have HGN := Lib.hid (show gR b 4 i0 idZ = G by rw [HG.out]; unfold getT; rw [if_neg (by rw [← HN3.out]; omega)]; rfl)
      clear h0 h1
      go_upto_region 4 with (go_at_call 22; (with_reducible refine HTL2.out.mono ?_); rintro e w2 ⟨rfl, rfl⟩)
      rename World => w2
      have hB2 := HB1.out.alloc HB1.out.size (.cells #[.int .i64 0, .int .i64 0, .int .i64 0, .int .i64 0] 24)
      have hg6 : RowC (w2.alloc (.cells #[.int .i64 0, .int .i64 0, .int .i64 0, .int .i64 0] 24)) w2.heap.size 4 24 (ids idZ) := heap_alloc_new w2 (.cells #[.int .i64 0, .int .i64 0, .int .i64 0, .int .i64 0] 24)
      have hg4 : RowC (w2.alloc (.cells #[.int .i64 0, .int .i64 0, .int .i64 0, .int .i64 0] 24)) w.heap.size 4 24 (ids idZ) := (heap_alloc_old w2 _ hz1).trans HG4.out
      generalize w2.alloc (.cells #[.int .i64 0, .int .i64 0, .int .i64 0, .int .i64 0] 24) = w3 at hB2 hg6 hg4 ⊢
      clear HTL2 HTL HG4 HB1
      generalize w2.heap.size = g6 at hz1 hg6 ⊢
      have HB3 := Lib.hid hB2
      have HG6 := Lib.hid hg6
      have HG4 := Lib.hid hg4
      clear hB2 hg6 hg4
      go_wp2_with fail
      go_loopw [1, 7] (fun iv kv wr => ∃ (m i : Nat) (q : Nat → Nat), iv = .int .i64 (i : Nat) ∧ kv = .int .i64 ((m : Int) - 1) ∧ m ≤ 4 ∧ gR b m i q = G ∧ Below w.heap.size w wr ∧ RowC wr w.heap.size 4 24 (ids idZ) ∧ RowC wr g6 4 24 (ids q)) (fun _ kv _ => (intOf kv + 1).toNat)
      case atStart => exact ⟨4, i0, idZ, rfl, rfl, by omega, HGN.out, HB3.out, HG4.out, HG6.out⟩
      case round =>
        rename World => wr
        obtain ⟨m, i, q, rfl, rfl, hm, hgr, hbr, hr4, hr6⟩ := hrel
        have HBR := Lib.hid hbr
        have HR4 := Lib.hid hr4
        have HR6 := Lib.hid hr6
        have HGR := Lib.hid hgr
        clear hbr hr4 hr6 hgr HGN HB3 HG6 HG4
        cases m with
        | zero =>
          have HGS := Lib.hid (show G = some q from HGR.out.symm)
          have HSQ := Lib.hid (show (Try.prog.info? 24).map (·.size) = some (rowC 4 (ids q)).size by rw [ids_size]; exact SZ.out)
          have n1 := setRow_heap wr w.heap.size _ (rowC 4 (ids q)) _ _ HR4.out
          have n2 := below_setRow HBR.out (Nat.le_refl w.heap.size) (rowC 4 (ids q))
          have HN1 := Lib.hid n1
          have HN2 := Lib.hid n2
          clear n1 n2
          go_wp2_with (first
            | (refine wpList_load_row rfl 24 _ rfl g6 rfl _ (rowC 4 (ids q)) _ _ HR6.out Try.underlying24 rfl HSQ.out ?_)
            | (refine wpList_store_row rfl 24 _ _ rfl w.heap.size (rowC 4 (ids q)) rfl rfl _ _ HR4.out HSQ.out (by rw [ids_size, ids_size]) (ids_one q) ?_))
          try simp only [Exit.inBlock, Exit.then]
          refine bodyPost_ret (results_rt18 rfl _ _ w.heap.size _ _ _ _ rfl HN1.out Try.underlying24 rfl HSQ.out) rfl ⟨HN2.out, ?_⟩
          rw [HGS.out]; rfl
        | succ k =>
          rw [show ((k + 1 : Nat) : Int) - 1 = (k : Nat) by omega]
          have hk4 : k < 4 := by omega
          obtain ⟨nk, hnk⟩ : ∃ nk, nk = tN b k := ⟨_, rfl⟩
          have c0 := (HT.out.below HBR.out).c0 hk4 rfl
          rw [← hnk] at c0
          have HNK := Lib.hid hnk
          have hnk2 : nk ≤ 1048576 := by rw [hnk]; exact HT.out.nk hk4
          clear hnk
          by_cases hik : nk ≤ i
          · have d1 : decide ((nk : Int) ≤ (i : Int)) = true := decide_eq_true (by omega)
            have d2 : decide (nk ≤ i) = true := decide_eq_true hik
            have HGN := Lib.hid (show G = none from by rw [← HGR.out]; simp only [gR]; rw [if_pos (.inl (by rw [← HNK.out]; exact hik))])
            obtain ⟨n1, n2⟩ := FIN.out wr HBR.out HR4.out
            have z0 : wr.cell? ⟨w.heap.size, 0, none⟩ = some (.int .i64 0) := RowC.cell HR4.out (i := 0) (by omega)
            have z1 : wr.cell? ⟨w.heap.size, 1, none⟩ = some (.int .i64 0) := RowC.cell HR4.out (i := 1) (by omega)
            have z2 : wr.cell? ⟨w.heap.size, 2, none⟩ = some (.int .i64 0) := RowC.cell HR4.out (i := 2) (by omega)
            have z3 : wr.cell? ⟨w.heap.size, 3, none⟩ = some (.int .i64 0) := RowC.cell HR4.out (i := 3) (by omega)
            have y0 := RowC.frozen HR4.out 0
            have y1 := RowC.frozen HR4.out 1
            have y2 := RowC.frozen HR4.out 2
            have y3 := RowC.frozen HR4.out 3
            have HN1 := Lib.hid n1
            have HN2 := Lib.hid n2
            clear n1 n2
            go_wp2_with fail
            try simp only [Exit.inBlock, Exit.then]
            refine bodyPost_ret (results_rt18 rfl _ _ w.heap.size _ _ _ _ rfl HN1.out Try.underlying24 rfl SZ.out) rfl ⟨HN2.out, ?_⟩
            rw [HGN.out]; rfl
          · have d1 : decide ((nk : Int) ≤ (i : Int)) = false := decide_eq_false (by omega)
            have d2 : decide (nk ≤ i) = false := decide_eq_false hik
            have HNUM := Lib.hid (tnum_calls (HT.out.below HBR.out) hk4 rfl i (by omega))
            by_cases hk0 : 0 < k
            rotate_left
            · have d3 : decide ((0 : Int) < (k : Int)) = false := decide_eq_false (by omega)
              have d4 : decide (0 < k) = false := decide_eq_false hk0
              have HG2 := Lib.hid (show gR b k i (upF q k (tM b k i)) = G by rw [← HGR.out]; simp only [gR]; rw [if_neg (by rw [← HNK.out]; omega), if_neg hk0])
              go_upto_region 11 with (go_at_call 62; (with_reducible refine HNUM.out.mono ?_); rintro e w5 ⟨rfl, m5, hm5⟩; (have HB5 := Lib.hid (show Below w.heap.size w w5 by rw [hm5]; exact below_drewN HBR.out m5)); (have HR5 := Lib.hid (show RowC w5 w.heap.size 4 24 (ids idZ) from (by rw [hm5]; exact HR4.out))); (have HQ5 := Lib.hid (show RowC w5 g6 4 24 (ids q) from (by rw [hm5]; exact HR6.out))); (have zk := RowC.cell HQ5.out (i := k) hk4); (have yk := RowC.frozen HQ5.out k); clear hm5)
              have hb6 := HB5.out.setCell (p := ⟨g6, k, none⟩) (by show w.heap.size ≤ g6; omega) (.int .i64 (tM b k i : Nat))
              have hr6 : (w5.setCell ⟨g6, k, none⟩ (.int .i64 (tM b k i : Nat))).heap[w.heap.size]? = some (.cells (rowC 4 (ids idZ)) 24 (0, 0)) := (heap_setCell_other w5 _ _ _ (by show w.heap.size ≠ g6; omega)).trans HR5.out
              have hq6 := HQ5.out.set k (.int .i64 (tM b k i : Nat))
              rw [ids_up] at hq6
              generalize w5.setCell ⟨g6, k, none⟩ (.int .i64 (tM b k i : Nat)) = w6 at hb6 hr6 hq6 ⊢
              have HB6 := Lib.hid hb6
              have HR46 := Lib.hid hr6
              have HQ6 := Lib.hid hq6
              clear hb6 hr6 hq6
              go_wp2_with fail
              exact ⟨⟨k, i, _, rfl, rfl, by omega, HG2.out, HB6.out, HR46.out, HQ6.out⟩, by simp [intOf]⟩
            · have d3 : decide ((0 : Int) < (k : Int)) = true := decide_eq_true (by omega)
              have d4 : decide (0 < k) = true := decide_eq_true hk0
              have c7 := (HT.out.below HBR.out).c7 hk4 rfl
              cases hv : tV b k with
              | false =>
                rw [HT.out.vn hk4 hv] at c7
                have HVV := Lib.hid hv
                clear hv
                have HGN := Lib.hid (show G = none from by rw [← HGR.out]; simp only [gR]; rw [if_pos (.inr ⟨hk0, HVV.out⟩)])
                obtain ⟨n1, n2⟩ := FIN.out wr HBR.out HR4.out
                have z0 : wr.cell? ⟨w.heap.size, 0, none⟩ = some (.int .i64 0) := RowC.cell HR4.out (i := 0) (by omega)
                have z1 : wr.cell? ⟨w.heap.size, 1, none⟩ = some (.int .i64 0) := RowC.cell HR4.out (i := 1) (by omega)
                have z2 : wr.cell? ⟨w.heap.size, 2, none⟩ = some (.int .i64 0) := RowC.cell HR4.out (i := 2) (by omega)
                have z3 : wr.cell? ⟨w.heap.size, 3, none⟩ = some (.int .i64 0) := RowC.cell HR4.out (i := 3) (by omega)
                have y0 := RowC.frozen HR4.out 0
                have y1 := RowC.frozen HR4.out 1
                have y2 := RowC.frozen HR4.out 2
                have y3 := RowC.frozen HR4.out 3
                have HN1 := Lib.hid n1
                have HN2 := Lib.hid n2
                clear n1 n2
                go_wp2_with fail
                try simp only [Exit.inBlock, Exit.then]
                refine bodyPost_ret (results_rt18 rfl _ _ w.heap.size _ _ _ _ rfl HN1.out Try.underlying24 rfl SZ.out) rfl ⟨HN2.out, ?_⟩
                rw [HGN.out]; rfl
              | true =>
                obtain ⟨gv, hgv, hvc⟩ := HT.out.vc hk4 hv
                rw [hgv] at c7
                have HG2 := Lib.hid (show gR b k (rkT b k i) (upF q k (tM b k i)) = G by rw [← HGR.out]; simp only [gR]; rw [if_neg (by rw [← HNK.out, hv]; simp; omega), if_pos hk0])
                have hrk : ∀ X, Below w.heap.size w X → Calls Try.prog 63 #[.pointer (some ⟨gv, 0, none⟩), .int .i64 (i : Nat)] X fun e w' => e = .returned (.int .i64 (rkT b k i : Nat)) ∧ ∃ q, w' = X.drewN q := fun X hX => rank_calls (hvc.below8 hX) (i : Nat) (by omega)
                have HRK := Lib.hid hrk
                have hc7 : ∀ X, Below w.heap.size w X → X.cell? ⟨gd, k * 8 + 7, none⟩ = some (.pointer (some ⟨gv, 0, none⟩)) := fun X hX => by have := (HT.out.below hX).c7 hk4 rfl; rw [hgv] at this; exact this
                have HC7 := Lib.hid hc7
                clear hv hgv hvc hrk hc7
                go_wp2_with fail
                go_at_call 62
                refine HNUM.out.mono ?_
                rintro e w5 ⟨rfl, m5, hm5⟩
                have HB5 := Lib.hid (show Below w.heap.size w w5 by rw [hm5]; exact below_drewN HBR.out m5)
                have HR5 := Lib.hid (show RowC w5 w.heap.size 4 24 (ids idZ) from (by rw [hm5]; exact HR4.out))
                have HQ5 := Lib.hid (show RowC w5 g6 4 24 (ids q) from (by rw [hm5]; exact HR6.out))
                have zk := RowC.cell HQ5.out (i := k) hk4
                have yk := RowC.frozen HQ5.out k
                clear hm5
                go_upto_region 11 with fail
                have hb6 := HB5.out.setCell (p := ⟨g6, k, none⟩) (by show w.heap.size ≤ g6; omega) (.int .i64 (tM b k i : Nat))
                have hr6 : (w5.setCell ⟨g6, k, none⟩ (.int .i64 (tM b k i : Nat))).heap[w.heap.size]? = _ := (heap_setCell_other w5 _ _ _ (by show w.heap.size ≠ g6; omega)).trans HR5.out
                have hq6 := HQ5.out.set k (.int .i64 (tM b k i : Nat))
                rw [ids_up] at hq6
                generalize w5.setCell ⟨g6, k, none⟩ (.int .i64 (tM b k i : Nat)) = w6 at hb6 hr6 hq6 ⊢
                have HB6 := Lib.hid hb6
                have HR46 := Lib.hid hr6
                have HQ6 := Lib.hid hq6
                clear hb6 hr6 hq6
                clear c7 c0 zk yk
                have c7 := HC7.out w6 HB6.out
                go_wp2_with ((go_at_call 63; (with_reducible refine (HRK.out _ HB6.out).mono ?_); rintro e w7 ⟨rfl, m7, hm7⟩; (have HB7 := Lib.hid (show Below w.heap.size w w7 by rw [hm7]; exact below_drewN HB6.out m7)); (have HR7 := Lib.hid (show RowC w7 w.heap.size 4 24 (ids idZ) from (by rw [hm7]; exact HR46.out))); (have HQ7 := Lib.hid (show RowC w7 g6 4 24 (ids (upF q k (tM b k i))) from (by rw [hm7]; exact HQ6.out))); clear hm7))
                exact ⟨⟨k, rkT b k i, _, rfl, rfl, by omega, HG2.out, HB7.out, HR7.out, HQ7.out⟩, by simp [intOf]⟩
end Go.Proofs.Ytgajpekolamjbaa
