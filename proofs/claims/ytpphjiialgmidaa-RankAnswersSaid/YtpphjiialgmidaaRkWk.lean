/- walked: what Each goes through, so many at most; twice. -/
import Derived.Test.YtpphjiialgmidaaRkBx
set_option linter.unusedSimpArgs false
set_option linter.unusedVariables false
namespace Go.Proofs.Ytpphjiialgmidaa
open Go.RowKit Go.Shelf Go.Tk
attribute [local go_sem] Oper.semAt_some
theorem same_rows (w : World) (n1 n2 : Nat) (v1 v2 : Value) (L : List Nat) (h1 : w.ownsRow n1 3 1 v1 L.length (intCs L)) (h2 : w.ownsRow n2 3 1 v2 L.length (intCs L)) :
    Calls Try.prog 56 #[v1, v2] w fun e w' => e = .returned (.bool true) ∧ ∃ m, w' = w.drewN m := by
  have o1 : Ow .i64 3 n1 w v1 (intZs L) := by unfold Ow; rw [intZs_len, ← intCs_zs]; exact h1
  have o2 : Ow .i64 3 n2 w v2 (intZs L) := by unfold Ow; rw [intZs_len, ← intCs_zs]; exact h2
  obtain ⟨a1, c1, rfl, s1, _⟩ := o1.sl
  obtain ⟨a2, c2, rfl, s2, _⟩ := o2.sl
  have := sameI2_calls w a1 _ c1 _ a2 _ c2 _ s1 s2
  rw [sameB_yes rfl] at this
  exact this
theorem cell_one_new (W : World) (v : Value) (e : TypeId) : ∀ j u, [v][j]? = some u → (W.alloc (.cells #[v] e)).cell? ((⟨W.heap.size, 0, none⟩ : Addr).add j) = some u := by
  intro j u hu
  cases j with
  | zero =>
    obtain rfl : v = u := by simpa using hu
    rw [Addr.add_lit, World.cell?_alloc_at _ _ _ _ rfl]; rfl
  | succ j => simp at hu
set_option maxRecDepth 100000 in
set_option maxHeartbeats 4000000 in
theorem walked_calls (w : World) (gv : Nat) (a0 : Option Addr) (c0' : Nat) (bs : List UInt8) (N m : Nat) (hV : VecAt w gv a0 c0' bs N m) (fr : Int) (hfr : -9223372036854775808 ≤ fr ∧ fr ≤ 9223372036854775807) (M : Nat) (hM : M ≤ 9223372036854775807) (L : List Nat) (hL : L = eachL (btB (datB bs)) N fr.toNat) :
    Calls Try.prog 33 #[.pointer (some ⟨gv, 0, none⟩), .int .i64 fr, .int .i64 (M : Nat)] w fun e w' => ∃ v, e = .returned (.tuple #[v, .bool true]) ∧ w'.ownsRow w.heap.size 3 1 v (L.take M).length (intCs (L.take M)) ∧ Below w.heap.size w w' := by
  obtain ⟨i0, hi, hz0, hz1, hz2⟩ := info_parts Try.infoI64
  have HI := Lib.hid hi
  have HZ0 := Lib.hid hz0
  have HZ1 := Lib.hid hz1
  have HZ2 := Lib.hid hz2
  clear hi hz0 hz1 hz2
  have hLl : L.length ≤ 67108864 := by rw [hL]; have := each_len (btB (datB bs)) N fr.toNat; have := hV.nN; omega
  have hstops : ∀ (n : Nat) (W : World), 1 ≤ n → w.heap.size + 4 ≤ W.heap.size → (∀ j, j < w.heap.size → W.heap[j]? = w.heap[j]?) → W.heap[w.heap.size + 3]? = some (.cells #[.int .i64 fr] 3 (0, 0)) → W.heap[w.heap.size + 2]? = some (.cells #[.pointer (some ⟨gv, 0, none⟩)] 37 (0, 0)) →
      SeqStopsK Fence.wide n Try.prog 65 #[.pointer (some ⟨w.heap.size + 3, 0, none⟩), .pointer (some ⟨w.heap.size + 2, 0, none⟩)] encI (KpV w (w.heap.size + 3) (w.heap.size + 2)) (fun ys => ys = L) (fun pre => pre <+: L) L.length W := by
    intro n W hn hsz hsm hb1 hb2 l J Jx W' hW' hA _ hY h0
    exact each1_in n hn l w gv a0 c0' bs N m hV (w.heap.size + 3) (w.heap.size + 2) fr hfr L hL J Jx hY (fun pre X k hJ => hA _ X _ none hJ (grownBy_drewN (World.grownBy.refl _ _) k) (fun r e => by cases e)) W'
      (fun j hj => (hW'.block _ (by omega)).trans (hsm j hj)) ((hW'.block _ (by omega)).trans hb1) ((hW'.block _ (by omega)).trans hb2) h0
  have HST := Lib.hid hstops
  have HV := Lib.hid hV
  clear hL hstops hV
  refine (callsIn_wide (n := 6)).1 ?_
  refine callsIn_of_wp_marks Try.func33 rfl trivial ?_ rfl
  simp only [Try.ntmps33, List.size_toArray, List.length_cons, List.length_nil, Nat.reduceAdd, Nat.reduceSub, Array.replicate_succ, Array.replicate_zero, List.push_toArray, List.append_toArray, List.nil_append, List.cons_append]
  gi_wp2_with (refine ⟨trivial, ?_⟩; gi_at_call 61; refine (each_in _ _ _ _).mono ?_; rintro e w' ⟨rfl, rfl⟩)
  simp only [Nat.add_assoc, Nat.reduceAdd]
  have b0 := Boxed.new w 3 (.int .i64 (M : Nat))
  have b1 := Boxed.new (w.alloc (.cells #[.int .i64 (M : Nat)] 3)) 59 (.slice none 0 0)
  have b2 := Boxed.new ((w.alloc (.cells #[.int .i64 (M : Nat)] 3)).alloc (.cells #[.slice none 0 0] 59)) 37 (.pointer (some ⟨gv, 0, none⟩))
  have b3 := Boxed.new (((w.alloc (.cells #[.int .i64 (M : Nat)] 3)).alloc (.cells #[.slice none 0 0] 59)).alloc (.cells #[.pointer (some ⟨gv, 0, none⟩)] 37)) 3 (.int .i64 fr)
  have b0' := (((b0.alloc (.cells #[.slice none 0 0] 59)).alloc (.cells #[.pointer (some ⟨gv, 0, none⟩)] 37)).alloc (.cells #[.int .i64 fr] 3))
  have b1' := ((b1.alloc (.cells #[.pointer (some ⟨gv, 0, none⟩)] 37)).alloc (.cells #[.int .i64 fr] 3))
  have b2' := b2.alloc (.cells #[.int .i64 fr] 3)
  have hB : Below w.heap.size w ((((w.alloc (.cells #[.int .i64 (M : Nat)] 3)).alloc (.cells #[.slice none 0 0] 59)).alloc (.cells #[.pointer (some ⟨gv, 0, none⟩)] 37)).alloc (.cells #[.int .i64 fr] 3)) := ((((Below.refl _ w).alloc (Nat.le_refl _) _).alloc (by simp) _).alloc (by simp; omega) _).alloc (by simp; omega) _
  have hsz : ((((w.alloc (.cells #[.int .i64 (M : Nat)] 3)).alloc (.cells #[.slice none 0 0] 59)).alloc (.cells #[.pointer (some ⟨gv, 0, none⟩)] 37)).alloc (.cells #[.int .i64 fr] 3)).heap.size = w.heap.size + 4 := by simp
  simp only [World.size_alloc, Nat.add_assoc, Nat.reduceAdd] at b0' b1' b2' b3
  clear b0 b1 b2
  generalize ((((w.alloc (.cells #[.int .i64 (M : Nat)] 3)).alloc (.cells #[.slice none 0 0] 59)).alloc (.cells #[.pointer (some ⟨gv, 0, none⟩)] 37)).alloc (.cells #[.int .i64 fr] 3)) = W0 at b0' b1' b2' b3 hB hsz ⊢
  rename_i Q1 K1 a1
  have hs0 : ∀ j, j < w.heap.size → W0.heap[j]? = w.heap[j]? := fun j hj => hB.block j hj
  have after : ∀ (D : Nat) (W : World), W0.heap.size ≤ D → SEnd 59 3 (w.heap.size + 4) (w.heap.size + 1) M L W → Carry W0 (w.heap.size + 1) W → Below w.heap.size w W →
      W.heap[D]? = some (.deferred (some [])) → K1 { tmps := #[.pointer (some ⟨gv, 0, none⟩), .int .i64 fr, .int .i64 (M : Nat), undef, undef, .pointer (some ⟨w.heap.size, 0, none⟩), .slice none 0 0, .bool false, .pointer (some ⟨w.heap.size + 1, 0, none⟩), .func (.func 65) #[] #[.pointer (some ⟨w.heap.size + 3, 0, none⟩), .pointer (some ⟨w.heap.size + 2, 0, none⟩)], undef, undef, undef, .pointer (some ⟨gv, 0, none⟩), .int .i64 fr, .func (.func 65) #[] #[.pointer (some ⟨w.heap.size + 3, 0, none⟩), .pointer (some ⟨w.heap.size + 2, 0, none⟩)], .func (.func 65) #[] #[.pointer (some ⟨w.heap.size + 3, 0, none⟩), .pointer (some ⟨w.heap.size + 2, 0, none⟩)], undef, undef, undef, undef, undef, undef, undef, undef, undef, undef, undef, undef, undef, undef, undef, undef, undef, undef, undef, undef, undef, undef, undef], defers := [{ target := .collected D, args := #[] }] } W := by
    rintro D W hD ⟨v1, hv1, hrow1⟩ hCa0 hBW hK
    have c0 := hCa0.box b0' (by omega)
    have c2 := hCa0.box b2' (by omega)
    have c3 := hCa0.box b3 (by omega)
    have hszW := hCa0.1
    have hltD := lt_of_block hK
    refine a1 _ _ ?_
    gi_wp2
    rename_i K2 a2
    have m0 := c0.alloc (.cells #[.slice none 0 0] 59)
    have m2 := c2.alloc (.cells #[.slice none 0 0] 59)
    have m3 := c3.alloc (.cells #[.slice none 0 0] 59)
    have mm := Boxed.new W 59 (.slice none 0 0)
    have mv := hv1.alloc (.cells #[.slice none 0 0] 59)
    have mr := hrow1.alloc (.cells #[.slice none 0 0] 59)
    have hBW2 := hBW.alloc hBW.size (.cells #[.slice none 0 0] 59)
    have mD : (W.alloc (.cells #[.slice none 0 0] 59)).heap[D]? = some (.deferred (some [])) := (Below.heap_alloc _ _ _ hltD).trans hK
    have hsz2 : (W.alloc (.cells #[.slice none 0 0] 59)).heap.size = W.heap.size + 1 := by simp
    generalize (W.alloc (.cells #[.slice none 0 0] 59)) = W2 at m0 m2 m3 mm mv mr hBW2 mD hsz2 ⊢
    have hs2 : ∀ j, j < w.heap.size → W2.heap[j]? = w.heap[j]? := fun j hj => hBW2.block j hj
    have hBn : W.heap.size ≠ w.heap.size + 1 := by omega
    have lt1 := lt_of_block hv1
    have after2 : ∀ (D2 : Nat) (X : World), W2.heap.size ≤ D2 → SEnd 59 3 (W.heap.size + 1) W.heap.size M L X → Carry W2 W.heap.size X → Below w.heap.size w X → X.heap[D2]? = some (.deferred (some [])) →
        K2 { tmps := #[.pointer (some ⟨gv, 0, none⟩), .int .i64 fr, .int .i64 (M : Nat), undef, undef, .pointer (some ⟨w.heap.size, 0, none⟩), .slice none 0 0, .bool false, .pointer (some ⟨w.heap.size + 1, 0, none⟩), .func (.func 65) #[] #[.pointer (some ⟨w.heap.size + 3, 0, none⟩), .pointer (some ⟨w.heap.size + 2, 0, none⟩)], undef, .pointer (some ⟨W.heap.size, 0, none⟩), undef, .pointer (some ⟨gv, 0, none⟩), .int .i64 fr, .func (.func 65) #[] #[.pointer (some ⟨w.heap.size + 3, 0, none⟩), .pointer (some ⟨w.heap.size + 2, 0, none⟩)], .func (.func 65) #[] #[.pointer (some ⟨w.heap.size + 3, 0, none⟩), .pointer (some ⟨w.heap.size + 2, 0, none⟩)], undef, undef, undef, undef, undef, undef, undef, undef, undef, .func (.func 65) #[] #[.pointer (some ⟨w.heap.size + 3, 0, none⟩), .pointer (some ⟨w.heap.size + 2, 0, none⟩)], undef, undef, undef, undef, undef, undef, undef, undef, undef, undef, undef, undef, undef], defers := [{ target := .collected D2, args := #[] }, { target := .collected D, args := #[] }] } X := by
      rintro D2 X hD2 ⟨v2, hv2, hrow2⟩ hCa hBX hK2
      refine a2 _ _ ?_
      refine wpIn_wide.2 ?_
      dsimp only
      have hX0 := hBX.size
      have hne : D ≠ D2 := by omega
      have hDX : X.heap[D]? = some (.deferred (some [])) := (hCa.2 D (by omega) (by omega)).trans mD
      have x1 := hCa.box mv (by omega)
      have r1 := hCa.row mr mm (by decide)
      have hx1 := x1.cell
      have hx2 := hv2.cell
      have same := fun n => same_rows (X.drewN n) (w.heap.size + 4) (W.heap.size + 1) v1 v2 (L.take M) r1 hrow2
      have R1 := Lib.hid r1
      have NE := Lib.hid hne
      have KD := Lib.hid hDX
      have KD2 := Lib.hid hK2
      have BX := Lib.hid hBX
      have LE1 := Lib.hid (show w.heap.size ≤ D by omega)
      have LE2 := Lib.hid (show w.heap.size ≤ D2 by omega)
      clear x1 r1 hX0 hne hDX hK hK2 hBX hCa hrow1 hrow2 hv1 hv2 c0 c2 c3 hBW m0 m2 m3 mm mv mr hBW2 mD hs2 hs0
      refine wp_seq ?_
      go_quiet ((go_at_call 56; exact (same _).mono fun _ _ ⟨he, m, hm⟩ => ⟨he, _, hm.trans (drewN_drewN X _ m)⟩))
      show Code.wp _ Code.ret Q1 _ _
      refine wp_ret ?_
      show LeavesInM Fence.wide 6 _ _ _ _ _ .returning _
      refine leaves2 (n₀ := w.heap.size) (v := .tuple #[v1, .bool true]) (a := { tmps := _, defers := [{ target := .collected D2, args := #[] }, { target := .collected D, args := #[] }] }) rfl NE.out KD.out KD2.out LE1.out LE2.out (fun Y => (results_tmp2 (t := 6) (u := 7) rfl _ _ _).trans rfl) ⟨v1, rfl, ?_, ?_⟩
      · exact ownsRow_mono (row_put (row_put (W := X.drewN nq) R1.out KD2.out rfl _) ((World.putObj_heap_other NE.out).trans KD.out) rfl _) (by omega)
      · refine ((below_drewN BX.out nq).grown (grownBy_putObj' _ D2 (.deferred none)) ?_ ?_).grown (grownBy_putObj' _ D (.deferred none)) ?_ ?_
        · exact BX.out.size
        · intro k e; cases e; exact LE2.out
        · have := BX.out.size; simpa using this
        · intro k e; cases e; exact LE1.out
    have hbx2 := mm
    have h32 := m3
    have h22 := m2
    have hb02 := m0
    have hB2 := hBW2
    refine wpIn_rangeFunc_ownG (α := Nat) rfl (by omega) (gf := 65) (lb := #[.pointer (some ⟨w.heap.size + 3, 0, none⟩), .pointer (some ⟨w.heap.size + 2, 0, none⟩)]) rfl trivial (enters_of Try.func65 (by kernel_rfl) rfl)
      (HST.out 5 W2 (by omega) (by omega) hs2 h32 h22) (fun h k => fun j hj => (k j hj).trans (h j hj)) (fun X l o o' hl h1 h2 h3 => fun j hj => World.putObj_heap_other (by omega)) (Below.refl _ _) (fun _ => rfl)
      (fun pre X => SInv 59 3 (W.heap.size + 1) (W.heap.size) M pre X ∧ Carry W2 (W.heap.size) X ∧ Below w.heap.size w X)
      (fun c pre X => c = .exit 2 ∧ SOut 59 3 (W.heap.size + 1) (W.heap.size) M pre X ∧ Carry W2 (W.heap.size) X ∧ Below w.heap.size w X)
      (OwnFrom.and (Own.from (SInv.own _ _ _ _ _) _) (OwnFrom.and (carry_own _ _) (ownFrom_below (Nat.le_refl _) (by omega))))
      (fun c => OwnFrom.and (ownFrom_pure _ (fun _ => c = .exit 2)) (OwnFrom.and (Own.from (SOut.own _ _ _ _ _) _) (OwnFrom.and (carry_own _ _) (ownFrom_below (Nat.le_refl _) (by omega)))))
      ⟨⟨_, hbx2, World.ownsRow_nil _ _ _ _, Nat.zero_le _⟩, Carry.refl _ _, hB2⟩
      (fun x => { tmps := #[.pointer (some ⟨gv, 0, none⟩), .int .i64 fr, .int .i64 (M : Nat), undef, undef, .pointer (some ⟨w.heap.size, 0, none⟩), .slice none 0 0, .bool false, .pointer (some ⟨w.heap.size + 1, 0, none⟩), .func (.func 65) #[] #[.pointer (some ⟨w.heap.size + 3, 0, none⟩), .pointer (some ⟨w.heap.size + 2, 0, none⟩)], undef, .pointer (some ⟨W.heap.size, 0, none⟩), .int .i64 (x : Nat), .pointer (some ⟨gv, 0, none⟩), .int .i64 fr, .func (.func 65) #[] #[.pointer (some ⟨w.heap.size + 3, 0, none⟩), .pointer (some ⟨w.heap.size + 2, 0, none⟩)], .func (.func 65) #[] #[.pointer (some ⟨w.heap.size + 3, 0, none⟩), .pointer (some ⟨w.heap.size + 2, 0, none⟩)], undef, undef, undef, undef, undef, undef, undef, undef, undef, .func (.func 65) #[] #[.pointer (some ⟨w.heap.size + 3, 0, none⟩), .pointer (some ⟨w.heap.size + 2, 0, none⟩)], .int .i64 (x : Nat), undef, undef, undef, undef, undef, undef, undef, undef, undef, undef, undef, undef], defers := [] }) ?assign ?body ?done ?stop
    case assign =>
      intro l x X K hK
      unfold encI
      gi_wp2
      exact hK
    case body =>
      rintro l pre x X ⟨⟨v, hv, hrow, hlM⟩, hCa, hBX⟩ hlt
      obtain ⟨a, cp, rfl⟩ := ownsRow_slice hrow
      have d0 := hCa.box hb02 (by omega)
      have hc := hv.cell
      have hc0 := d0.cell
      have hszX := hBX.size
      have hszC := hCa.1
      have HROW := Lib.hid hrow
      have HV := Lib.hid hv
      have HCA := Lib.hid hCa
      have HBX := Lib.hid hBX
      clear d0 hCa hBX hrow hv
      by_cases hML : pre.length = M
      · have e1 : decide (M ≤ pre.length) = true := decide_eq_true (by omega)
        have hfin : SOut 59 3 (W.heap.size + 1) (W.heap.size) M (pre ++ [x]) X := by
          refine ⟨_, HV.out, ?_, by simp [hML]⟩
          rw [List.take_append_of_le_length (by omega), List.take_of_length_le (by omega), ← hML]
          exact HROW.out
        have HF := Lib.hid hfin
        clear hfin hML
        gi_wp2
        exact ⟨KeepsFrom.refl _ _, rfl, HF.out, HCA.out, HBX.out⟩
      · have e1 : decide (M ≤ pre.length) = false := decide_eq_false (by omega)
        have hLp : pre.length < 67108864 := by omega
        gi_wp2_with (gi_at_builtin; refine wpListIn_append_own _ rfl _ _ 59 rfl (W.heap.size + 1) 3 i0 (.int .i64 0) 1 8 Try.underlying59 HI.out HZ0.out HZ1.out HZ2.out rfl (by decide) _ _ _ rfl (HROW.out.alloc _) ⟨X.heap.size, 0, none⟩ 1 1 [.int .i64 (x : Nat)] rfl rfl (cell_one_new _ _ _) (by simp [Value.oneCell']) (by unfold maxLen; omega) (by omega) (by simp; omega) ?_; intro v' w1 hown' hgrow _; obtain ⟨g', cap', rfl⟩ := ownsRow_succ hown'; obtain ⟨hv1, hv2, hr2, hk2, hb2, _, hb3⟩ := boxed_app (n₁ := w.heap.size) HV.out (by decide) HROW.out (by omega) (by omega) (by omega) hown' hgrow; have hc1 := hv1.cell; have hf1 := hv1.frozen; (have HV2 := Lib.hid hv2); (have HR2 := Lib.hid hr2); (have HK2 := Lib.hid hk2); (have HB2 := Lib.hid hb2); (have HB3 := Lib.hid hb3); clear hv1 hv2 hr2 hk2 hb2 hb3 hown' hgrow)
        refine ⟨HK2.out.from _, (fun j hj => HB3.out j (by omega) (by omega) (by omega)), ⟨_, HV2.out, ?_, by simp; omega⟩, ⟨Nat.le_trans hszC HK2.out.size, fun j hj hjB => (HB3.out j (by omega) (by omega) hjB).trans (HCA.out.2 j hj hjB)⟩, HBX.out.trans HB2.out⟩
        rw [intCs_snoc]
        simpa using HR2.out
    case done =>
      rintro D2 ys X hD2 hS ⟨hI, hCa, hBX⟩ hK
      exact after2 D2 X hD2 (hI.done hS) hCa hBX hK
    case stop =>
      rintro D2 c pre X hD2 hSp ⟨rfl, hO, hCa, hBX⟩ hK
      gi_wp2
      exact after2 D2 X hD2 (hO.done hSp) hCa hBX hK
  have hbx0 := b1'
  have h30 := b3
  have h20 := b2'
  have hb00 := b0'
  have hB0 := hB
  refine wpIn_rangeFunc_ownG (α := Nat) rfl (by omega) (gf := 65) (lb := #[.pointer (some ⟨w.heap.size + 3, 0, none⟩), .pointer (some ⟨w.heap.size + 2, 0, none⟩)]) rfl trivial (enters_of Try.func65 (by kernel_rfl) rfl)
    (HST.out 5 W0 (by omega) (by omega) hs0 h30 h20) (fun h k => fun j hj => (k j hj).trans (h j hj)) (fun X l o o' hl h1 h2 h3 => fun j hj => World.putObj_heap_other (by omega)) (Below.refl _ _) (fun _ => rfl)
    (fun pre X => SInv 59 3 (w.heap.size + 4) (w.heap.size + 1) M pre X ∧ Carry W0 (w.heap.size + 1) X ∧ Below w.heap.size w X)
    (fun c pre X => c = .exit 0 ∧ SOut 59 3 (w.heap.size + 4) (w.heap.size + 1) M pre X ∧ Carry W0 (w.heap.size + 1) X ∧ Below w.heap.size w X)
    (OwnFrom.and (Own.from (SInv.own _ _ _ _ _) _) (OwnFrom.and (carry_own _ _) (ownFrom_below (Nat.le_refl _) (by omega))))
    (fun c => OwnFrom.and (ownFrom_pure _ (fun _ => c = .exit 0)) (OwnFrom.and (Own.from (SOut.own _ _ _ _ _) _) (OwnFrom.and (carry_own _ _) (ownFrom_below (Nat.le_refl _) (by omega)))))
    ⟨⟨_, hbx0, World.ownsRow_nil _ _ _ _, Nat.zero_le _⟩, Carry.refl _ _, hB0⟩
    (fun x => { tmps := #[.pointer (some ⟨gv, 0, none⟩), .int .i64 fr, .int .i64 (M : Nat), undef, undef, .pointer (some ⟨w.heap.size, 0, none⟩), .slice none 0 0, .bool false, .pointer (some ⟨w.heap.size + 1, 0, none⟩), .func (.func 65) #[] #[.pointer (some ⟨w.heap.size + 3, 0, none⟩), .pointer (some ⟨w.heap.size + 2, 0, none⟩)], .int .i64 (x : Nat), undef, undef, .pointer (some ⟨gv, 0, none⟩), .int .i64 fr, .func (.func 65) #[] #[.pointer (some ⟨w.heap.size + 3, 0, none⟩), .pointer (some ⟨w.heap.size + 2, 0, none⟩)], .func (.func 65) #[] #[.pointer (some ⟨w.heap.size + 3, 0, none⟩), .pointer (some ⟨w.heap.size + 2, 0, none⟩)], .int .i64 (x : Nat), undef, undef, undef, undef, undef, undef, undef, undef, undef, undef, undef, undef, undef, undef, undef, undef, undef, undef, undef, undef, undef, undef], defers := [] }) ?assign ?body ?done ?stop
  case assign =>
    intro l x X K hK
    unfold encI
    gi_wp2
    exact hK
  case body =>
    rintro l pre x X ⟨⟨v, hv, hrow, hlM⟩, hCa, hBX⟩ hlt
    obtain ⟨a, cp, rfl⟩ := ownsRow_slice hrow
    have d0 := hCa.box hb00 (by omega)
    have hc := hv.cell
    have hc0 := d0.cell
    have hszX := hBX.size
    have hszC := hCa.1
    have HROW := Lib.hid hrow
    have HV := Lib.hid hv
    have HCA := Lib.hid hCa
    have HBX := Lib.hid hBX
    clear d0 hCa hBX hrow hv
    by_cases hML : pre.length = M
    · have e1 : decide (M ≤ pre.length) = true := decide_eq_true (by omega)
      have hfin : SOut 59 3 (w.heap.size + 4) (w.heap.size + 1) M (pre ++ [x]) X := by
        refine ⟨_, HV.out, ?_, by simp [hML]⟩
        rw [List.take_append_of_le_length (by omega), List.take_of_length_le (by omega), ← hML]
        exact HROW.out
      have HF := Lib.hid hfin
      clear hfin hML
      gi_wp2
      exact ⟨KeepsFrom.refl _ _, rfl, HF.out, HCA.out, HBX.out⟩
    · have e1 : decide (M ≤ pre.length) = false := decide_eq_false (by omega)
      have hLp : pre.length < 67108864 := by omega
      gi_wp2_with (gi_at_builtin; refine wpListIn_append_own _ rfl _ _ 59 rfl (w.heap.size + 4) 3 i0 (.int .i64 0) 1 8 Try.underlying59 HI.out HZ0.out HZ1.out HZ2.out rfl (by decide) _ _ _ rfl (HROW.out.alloc _) ⟨X.heap.size, 0, none⟩ 1 1 [.int .i64 (x : Nat)] rfl rfl (cell_one_new _ _ _) (by simp [Value.oneCell']) (by unfold maxLen; omega) (by omega) (by simp; omega) ?_; intro v' w1 hown' hgrow _; obtain ⟨g', cap', rfl⟩ := ownsRow_succ hown'; obtain ⟨hv1, hv2, hr2, hk2, hb2, _, hb3⟩ := boxed_app (n₁ := w.heap.size) HV.out (by decide) HROW.out (by omega) (by omega) (by omega) hown' hgrow; have hc1 := hv1.cell; have hf1 := hv1.frozen; (have HV2 := Lib.hid hv2); (have HR2 := Lib.hid hr2); (have HK2 := Lib.hid hk2); (have HB2 := Lib.hid hb2); (have HB3 := Lib.hid hb3); clear hv1 hv2 hr2 hk2 hb2 hb3 hown' hgrow)
      refine ⟨HK2.out.from _, (fun j hj => HB3.out j (by omega) (by omega) (by omega)), ⟨_, HV2.out, ?_, by simp; omega⟩, ⟨Nat.le_trans hszC HK2.out.size, fun j hj hjB => (HB3.out j (by omega) (by omega) hjB).trans (HCA.out.2 j hj hjB)⟩, HBX.out.trans HB2.out⟩
      rw [intCs_snoc]
      simpa using HR2.out
  case done =>
    rintro D ys X hD hS ⟨hI, hCa, hBX⟩ hK
    exact after D X hD (hI.done hS) hCa hBX hK
  case stop =>
    rintro D c pre X hD hSp ⟨rfl, hO, hCa, hBX⟩ hK
    gi_wp2
    exact after D X hD (hO.done hSp) hCa hBX hK
end Go.Proofs.Ytpphjiialgmidaa
