/- walked: at every text what it sees; both loops. -/
import Derived.Test.YthloijpnbljpeaaUtfSame
import Derived.Outline
set_option linter.unusedSimpArgs false
set_option linter.unusedVariables false
namespace Go.Proofs.Ythloijpnbljpeaa
open Go.RowKit Go.Shelf Go.Tk
attribute [local go_sem] Oper.semAt_some
set_option maxRecDepth 100000 in
set_option maxHeartbeats 4000000 in
theorem walked_calls (s : ByteArray) (M : Nat) (w : World) (hs : s.size ≤ 1048576) (hM : M ≤ 9223372036854775807) :
    Calls Try.prog 15 #[.string s, .int .i64 (M : Nat)] w fun e w' => ∃ v, e = .returned (.tuple #[v, .bool true]) ∧ w'.ownsRow w.heap.size 38 2 v ((seenL s.data.toList 0).take M).length (seenCs ((seenL s.data.toList 0).take M)) ∧ Below w.heap.size w w' := by
  obtain ⟨i0, hi, hz0, hz1, hz2⟩ := info_parts Try.infoSeen
  have HI := Lib.hid hi
  have HZ0 := Lib.hid hz0
  have HZ1 := Lib.hid hz1
  have HZ2 := Lib.hid hz2
  clear hi hz0 hz1 hz2
  obtain ⟨L, hL⟩ : ∃ L, L = seenL s.data.toList 0 := ⟨_, rfl⟩
  have hLl : L.length ≤ 1048576 := by rw [hL]; have := seenL_len s.data.toList 0; rw [← Lib.size_eq] at this; omega
  have hstops : ∀ (n : Nat) (W : World), 1 ≤ n → W.heap[w.heap.size + 3]? = some (.cells #[.string s] 9 (0, 0)) →
      SeqStopsK Fence.wide n Try.prog 26 #[.pointer (some ⟨w.heap.size + 3, 0, none⟩)] SeenP.enc (fun A B => B.heap[w.heap.size + 3]? = A.heap[w.heap.size + 3]?) (fun ys => ys.map (·.1) = L) (fun pre => pre.map (·.1) <+: L) L.length W := by
    intro n W hn hb l J Jx W' hW' _ _ hY h0
    have hlt := lt_of_block hb
    have := runes1_in n hn l (w.heap.size + 3) s (by omega) J Jx (by rw [← hL]; exact hY) W' (cell_of_one ((hW'.block _ hlt).trans hb)) h0
    rw [← hL] at this
    exact this
  have HST := Lib.hid hstops
  rw [← hL]
  have HL := Lib.hid hL
  clear hL hstops
  refine (callsIn_wide (n := 6)).1 ?_
  refine callsIn_of_wp_marks Try.func15 rfl trivial ?_ rfl
  simp only [Try.ntmps15, List.size_toArray, List.length_cons, List.length_nil, Nat.reduceAdd, Nat.reduceSub, Array.replicate_succ, Array.replicate_zero, List.push_toArray, List.append_toArray, List.nil_append, List.cons_append]
  gi_wp2_with (refine ⟨trivial, ?_⟩; gi_at_call 23; refine (runes_in _ _ _).mono ?_; rintro e w' ⟨rfl, rfl⟩)
  have b0 := Boxed.new w 3 (.int .i64 (M : Nat))
  have b1 := Boxed.new (w.alloc (.cells #[.int .i64 (M : Nat)] 3)) 36 (.slice none 0 0)
  have b2 := Boxed.new ((w.alloc (.cells #[.int .i64 (M : Nat)] 3)).alloc (.cells #[.slice none 0 0] 36)) 36 (.slice none 0 0)
  have b3 := Boxed.new (((w.alloc (.cells #[.int .i64 (M : Nat)] 3)).alloc (.cells #[.slice none 0 0] 36)).alloc (.cells #[.slice none 0 0] 36)) 9 (.string s)
  have hB : Below w.heap.size w ((((w.alloc (.cells #[.int .i64 (M : Nat)] 3)).alloc (.cells #[.slice none 0 0] 36)).alloc (.cells #[.slice none 0 0] 36)).alloc (.cells #[.string s] 9)) := ((((Below.refl _ w).alloc (Nat.le_refl _) _).alloc (by simp) _).alloc (by simp; omega) _).alloc (by simp; omega) _
  have b0' := ((b0.alloc (.cells #[.slice none 0 0] 36)).alloc (.cells #[.slice none 0 0] 36)).alloc (.cells #[.string s] 9)
  have b1' := (b1.alloc (.cells #[.slice none 0 0] 36)).alloc (.cells #[.string s] 9)
  have b2' := b2.alloc (.cells #[.string s] 9)
  simp only [World.size_alloc, Nat.add_assoc, Nat.reduceAdd] at b0' b1' b2' b3 ⊢
  clear b0 b1 b2
  have hsz : ((((w.alloc (.cells #[.int .i64 (M : Nat)] 3)).alloc (.cells #[.slice none 0 0] 36)).alloc (.cells #[.slice none 0 0] 36)).alloc (.cells #[.string s] 9)).heap.size = w.heap.size + 4 := by simp
  generalize ((((w.alloc (.cells #[.int .i64 (M : Nat)] 3)).alloc (.cells #[.slice none 0 0] 36)).alloc (.cells #[.slice none 0 0] 36)).alloc (.cells #[.string s] 9)) = W0 at b0' b1' b2' b3 hB hsz ⊢
  rename_i Q1 K1 a1
  have after : ∀ (D : Nat) (W : World), W0.heap.size ≤ D → SEnd 36 38 w.heap.size (w.heap.size + 1) M L W → (Boxed W w.heap.size 3 (.int .i64 (M : Nat)) ∧ Boxed W (w.heap.size + 2) 36 (.slice none 0 0) ∧ Boxed W (w.heap.size + 3) 9 (.string s)) → Below w.heap.size w W →
      W.heap[D]? = some (.deferred (some [])) → K1 { tmps := #[.string s, .int .i64 (M : Nat), undef, .pointer (some ⟨w.heap.size, 0, none⟩), .slice none 0 0, .bool false, .pointer (some ⟨w.heap.size + 1, 0, none⟩), .pointer (some ⟨w.heap.size + 2, 0, none⟩), .func (.func 26) #[] #[.pointer (some ⟨w.heap.size + 3, 0, none⟩)], undef, undef, undef, undef, .string s, .func (.func 26) #[] #[.pointer (some ⟨w.heap.size + 3, 0, none⟩)], .func (.func 26) #[] #[.pointer (some ⟨w.heap.size + 3, 0, none⟩)], undef, undef, undef, undef, undef, undef, undef, undef, undef, undef, undef, undef, undef, undef, undef, undef, undef, undef, undef, undef, undef, undef, undef, undef, undef, undef, undef, undef, undef, undef, undef], defers := [{ target := .collected D, args := #[] }] } W := by
    rintro D W hD ⟨v1, hv1, hrow1⟩ ⟨c0, c2, c3⟩ hBW hK
    refine a1 _ _ ?_
    gi_wp2
    have hsW := hBW.size
    have lt3 := lt_of_block c3
    rename_i K2 a2
    have after2 : ∀ (D2 : Nat) (X : World), W.heap.size ≤ D2 → SEnd 36 38 W.heap.size (w.heap.size + 2) M L X → Carry W (w.heap.size + 2) X → Below w.heap.size w X → X.heap[D2]? = some (.deferred (some [])) →
        K2 { tmps := #[.string s, .int .i64 (M : Nat), undef, .pointer (some ⟨w.heap.size, 0, none⟩), .slice none 0 0, .bool false, .pointer (some ⟨w.heap.size + 1, 0, none⟩), .pointer (some ⟨w.heap.size + 2, 0, none⟩), .func (.func 26) #[] #[.pointer (some ⟨w.heap.size + 3, 0, none⟩)], undef, undef, undef, undef, .string s, .func (.func 26) #[] #[.pointer (some ⟨w.heap.size + 3, 0, none⟩)], .func (.func 26) #[] #[.pointer (some ⟨w.heap.size + 3, 0, none⟩)], undef, undef, undef, undef, undef, undef, undef, undef, undef, undef, undef, undef, undef, .func (.func 26) #[] #[.pointer (some ⟨w.heap.size + 3, 0, none⟩)], undef, undef, undef, undef, undef, undef, undef, undef, undef, undef, undef, undef, undef, undef, undef, undef, undef], defers := [{ target := .collected D2, args := #[] }, { target := .collected D, args := #[] }] } X := by
      rintro D2 X hD2 ⟨v2, hv2, hrow2⟩ hCa hBX hK2
      refine a2 _ _ ?_
      refine wpIn_wide.2 ?_
      dsimp only
      have hX0 := hBX.size
      have hne : D ≠ D2 := by have := lt_of_block hK; omega
      have hDX : X.heap[D]? = some (.deferred (some [])) := (hCa.2 D (lt_of_block hK) (by intro e; rw [e, c2] at hK; cases hK)).trans hK
      have x1 := hCa.box hv1 (by omega)
      have r1 := hCa.row hrow1 c2 (by decide)
      have hx1 := x1.cell
      have hx2 := hv2.cell
      have same := fun n => sameSeen_calls (X.drewN n) w.heap.size W.heap.size v1 v2 (L.take M) (by simp; omega) r1 hrow2
      have R1 := Lib.hid r1
      have NE := Lib.hid hne
      have KD := Lib.hid hDX
      have KD2 := Lib.hid hK2
      have BX := Lib.hid hBX
      have LE1 := Lib.hid (show w.heap.size ≤ D by omega)
      have LE2 := Lib.hid (show w.heap.size ≤ D2 by omega)
      clear x1 r1 hX0 hne hDX hK hK2 hBX hCa hrow1 hrow2 hv1 hv2 c0 c2 c3 hBW
      refine wp_seq ?_
      go_quiet ((go_at_call 16; exact (same _).mono fun _ _ ⟨he, m, hm⟩ => ⟨he, _, hm.trans (drewN_drewN X _ m)⟩))
      show Code.wp _ Code.ret Q1 _ _
      refine wp_ret ?_
      show LeavesInM Fence.wide 6 _ _ _ _ _ .returning _
      refine leaves2 (n₀ := w.heap.size) (v := .tuple #[v1, .bool true]) (a := { tmps := _, defers := [{ target := .collected D2, args := #[] }, { target := .collected D, args := #[] }] }) rfl NE.out KD.out KD2.out LE1.out LE2.out (fun Y => (results_tmp2 (t := 4) (u := 5) rfl _ _ _).trans rfl) ⟨v1, rfl, ?_, ?_⟩
      · exact row_put (row_put (W := X.drewN nq) R1.out KD2.out rfl _) ((World.putObj_heap_other NE.out).trans KD.out) rfl _
      · refine ((below_drewN BX.out nq).grown (grownBy_putObj' _ D2 (.deferred none)) ?_ ?_).grown (grownBy_putObj' _ D (.deferred none)) ?_ ?_
        · exact BX.out.size
        · intro k e; cases e; exact LE2.out
        · have := BX.out.size; simpa using this
        · intro k e; cases e; exact LE1.out
    refine wpIn_rangeFunc_ownG (α := SeenP) rfl (by omega) (gf := 26) (lb := #[.pointer (some ⟨w.heap.size + 3, 0, none⟩)]) rfl trivial (enters_of Try.func26 (by kernel_rfl) rfl)
      (HST.out 5 W (by omega) c3) (fun h k => k.trans h) (fun X l o o' hl h1 h2 h3 => World.putObj_heap_other (by omega)) (Below.refl _ _) (fun _ => rfl)
      (fun pre X => SInv 36 38 W.heap.size (w.heap.size + 2) M pre X ∧ Carry W (w.heap.size + 2) X ∧ Below w.heap.size w X)
      (fun c pre X => c = .exit 2 ∧ SOut 36 38 W.heap.size (w.heap.size + 2) M pre X ∧ Carry W (w.heap.size + 2) X ∧ Below w.heap.size w X)
      (OwnFrom.and (Own.from (SInv.own _ _ _ _ _) _) (OwnFrom.and (carry_own _ _) (ownFrom_below (Nat.le_refl _) (by omega))))
      (fun c => OwnFrom.and (ownFrom_pure _ (fun _ => c = .exit 2)) (OwnFrom.and (Own.from (SOut.own _ _ _ _ _) _) (OwnFrom.and (carry_own _ _) (ownFrom_below (Nat.le_refl _) (by omega)))))
      ⟨⟨_, c2, World.ownsRow_nil _ _ _ _, Nat.zero_le _⟩, Carry.refl _ _, hBW⟩
      (fun x => { tmps := #[.string s, .int .i64 (M : Nat), undef, .pointer (some ⟨w.heap.size, 0, none⟩), .slice none 0 0, .bool false, .pointer (some ⟨w.heap.size + 1, 0, none⟩), .pointer (some ⟨w.heap.size + 2, 0, none⟩), .func (.func 26) #[] #[.pointer (some ⟨w.heap.size + 3, 0, none⟩)], undef, undef, .int .i64 (x.1.1 : Nat), .int .i32 x.1.2, .string s, .func (.func 26) #[] #[.pointer (some ⟨w.heap.size + 3, 0, none⟩)], .func (.func 26) #[] #[.pointer (some ⟨w.heap.size + 3, 0, none⟩)], undef, undef, undef, undef, undef, undef, undef, undef, undef, undef, undef, undef, undef, .func (.func 26) #[] #[.pointer (some ⟨w.heap.size + 3, 0, none⟩)], .int .i64 (x.1.1 : Nat), .int .i32 x.1.2, undef, undef, undef, undef, undef, undef, undef, undef, undef, undef, undef, undef, undef, undef, undef], defers := [] }) ?assign ?body ?done ?stop
    case assign =>
      intro l x X K hK
      unfold SeenP.enc
      gi_wp2
      exact hK
    case body =>
      rintro l pre x X ⟨⟨v, hv, hrow, hlM⟩, hCa, hBX⟩ hlt
      obtain ⟨a, cp, rfl⟩ := ownsRow_slice hrow
      obtain ⟨⟨xk, xr⟩, hx1, hx2, hx3⟩ := x
      simp only at hx1 hx2 hx3 ⊢
      have d0 := hCa.box c0 (by omega)
      have d3 := hCa.box c3 (by omega)
      have hc := hv.cell
      have hc0 := d0.cell
      have hszX := hBX.size
      have hszC := hCa.1
      by_cases hML : pre.length = M
      · have e1 : decide (M ≤ pre.length) = true := decide_eq_true (by omega)
        have hfin : SOut 36 38 W.heap.size (w.heap.size + 2) M (pre ++ [⟨(xk, xr), hx1, hx2, hx3⟩]) X := by
          refine ⟨_, hv, ?_, by simp [hML]⟩
          rw [List.map_append, List.take_append_of_le_length (by simp; omega), List.take_of_length_le (by simp; omega), ← hML]
          exact hrow
        have HF := Lib.hid hfin
        clear hfin hML
        gi_wp2
        exact ⟨KeepsFrom.refl _ _, rfl, HF.out, hCa, hBX⟩
      · have e1 : decide (M ≤ pre.length) = false := decide_eq_false (by omega)
        have hLp : pre.length < 1048576 := by omega
        gi_wp2_with (gi_at_builtin; refine wpListIn_append_own _ rfl _ _ 36 rfl W.heap.size 38 i0 (.agg #[.int .i64 0, .int .i64 0]) 2 16 Try.underlying36 HI.out HZ0.out HZ1.out HZ2.out rfl (by decide) _ _ _ rfl (hrow.alloc _) ⟨X.heap.size, 0, none⟩ 1 1 [.int .i64 (xk : Nat), .int .i64 xr] rfl rfl (cell_two_new _ _ _ _) (by simp [Value.oneCell']) (by unfold maxLen; omega) (by omega) (by simp; omega) ?_; intro v' w1 hown' hgrow _; obtain ⟨g', cap', rfl⟩ := ownsRow_succ hown'; obtain ⟨hv1, hv2, hr2, hk2, hb2, _, hb3⟩ := boxed_app (n₁ := w.heap.size) hv (by decide) hrow (by omega) (by omega) (by omega) hown' hgrow; have hc1 := hv1.cell; have hf1 := hv1.frozen; (have HV2 := Lib.hid hv2); (have HR2 := Lib.hid hr2); (have HK2 := Lib.hid hk2); (have HB2 := Lib.hid hb2); (have HB3 := Lib.hid hb3); clear hv1 hv2 hr2 hk2 hb2 hb3 hown' hgrow)
        refine ⟨HK2.out.from _, HB3.out _ (by omega) (by omega) (by omega), ⟨_, HV2.out, ?_, by simp; omega⟩, ⟨Nat.le_trans hszC HK2.out.size, fun j hj hjB => (HB3.out j (by omega) (by omega) hjB).trans (hCa.2 j hj hjB)⟩, hBX.trans HB2.out⟩
        rw [List.map_append, seenCs_snoc_map]
        simpa using HR2.out
    case done =>
      rintro D2 ys X hD2 hS ⟨hI, hCa, hBX⟩ hK2
      exact after2 D2 X hD2 (hI.done hS) hCa hBX hK2
    case stop =>
      rintro D2 c pre X hD2 hSp ⟨rfl, hO, hCa, hBX⟩ hK2
      gi_wp2
      exact after2 D2 X hD2 (hO.done hSp) hCa hBX hK2
  refine wpIn_rangeFunc_ownG (α := SeenP) rfl (by omega) (gf := 26) (lb := #[.pointer (some ⟨w.heap.size + 3, 0, none⟩)]) rfl trivial (enters_of Try.func26 (by kernel_rfl) rfl)
    (HST.out 5 W0 (by omega) b3) (fun h k => k.trans h) (fun W l o o' hl h1 h2 h3 => World.putObj_heap_other (by omega)) (Below.refl _ _) (fun _ => rfl)
    (fun pre W => SInv 36 38 w.heap.size (w.heap.size + 1) M pre W ∧ (Boxed W w.heap.size 3 (.int .i64 (M : Nat)) ∧ Boxed W (w.heap.size + 2) 36 (.slice none 0 0) ∧ Boxed W (w.heap.size + 3) 9 (.string s)) ∧ Below w.heap.size w W)
    (fun c pre W => c = .exit 0 ∧ SOut 36 38 w.heap.size (w.heap.size + 1) M pre W ∧ (Boxed W w.heap.size 3 (.int .i64 (M : Nat)) ∧ Boxed W (w.heap.size + 2) 36 (.slice none 0 0) ∧ Boxed W (w.heap.size + 3) 9 (.string s)) ∧ Below w.heap.size w W)
    (OwnFrom.and (Own.from (SInv.own _ _ _ _ _) _) (OwnFrom.and (OwnFrom.and (Own.from (boxed_own _ _ _) _) (OwnFrom.and (Own.from (boxed_own _ _ _) _) (Own.from (boxed_own _ _ _) _))) (ownFrom_below (Nat.le_refl _) (by omega))))
    (fun c => OwnFrom.and (ownFrom_pure _ (fun _ => c = .exit 0)) (OwnFrom.and (Own.from (SOut.own _ _ _ _ _) _) (OwnFrom.and (OwnFrom.and (Own.from (boxed_own _ _ _) _) (OwnFrom.and (Own.from (boxed_own _ _ _) _) (Own.from (boxed_own _ _ _) _))) (ownFrom_below (Nat.le_refl _) (by omega)))))
    ⟨⟨_, b1', World.ownsRow_nil _ _ _ _, Nat.zero_le _⟩, ⟨b0', b2', b3⟩, hB⟩
    (fun x => { tmps := #[.string s, .int .i64 (M : Nat), undef, .pointer (some ⟨w.heap.size, 0, none⟩), .slice none 0 0, .bool false, .pointer (some ⟨w.heap.size + 1, 0, none⟩), .pointer (some ⟨w.heap.size + 2, 0, none⟩), .func (.func 26) #[] #[.pointer (some ⟨w.heap.size + 3, 0, none⟩)], .int .i64 (x.1.1 : Nat), .int .i32 x.1.2, undef, undef, .string s, .func (.func 26) #[] #[.pointer (some ⟨w.heap.size + 3, 0, none⟩)], .func (.func 26) #[] #[.pointer (some ⟨w.heap.size + 3, 0, none⟩)], .int .i64 (x.1.1 : Nat), .int .i32 x.1.2, undef, undef, undef, undef, undef, undef, undef, undef, undef, undef, undef, undef, undef, undef, undef, undef, undef, undef, undef, undef, undef, undef, undef, undef, undef, undef, undef, undef, undef], defers := [] }) ?assign ?body ?done ?stop
  case assign =>
    intro l x W K hK
    unfold SeenP.enc
    gi_wp2
    exact hK
  case body =>
    rintro l pre x W ⟨⟨v, hv, hrow, hlM⟩, ⟨c0, c2, c3⟩, hBW⟩ hlt
    obtain ⟨a, cp, rfl⟩ := ownsRow_slice hrow
    obtain ⟨⟨xk, xr⟩, hx1, hx2, hx3⟩ := x
    simp only at hx1 hx2 hx3 ⊢
    have hc := hv.cell
    have hc0 := c0.cell
    have hsz := hBW.size
    by_cases hML : pre.length = M
    · have e1 : decide (M ≤ pre.length) = true := decide_eq_true (by omega)
      have hfin : SOut 36 38 w.heap.size (w.heap.size + 1) M (pre ++ [⟨(xk, xr), hx1, hx2, hx3⟩]) W := by
        refine ⟨_, hv, ?_, by simp [hML]⟩
        rw [List.map_append, List.take_append_of_le_length (by simp; omega), List.take_of_length_le (by simp; omega), ← hML]
        exact hrow
      have HF := Lib.hid hfin
      clear hfin hML
      gi_wp2
      exact ⟨KeepsFrom.refl _ _, rfl, HF.out, ⟨c0, c2, c3⟩, hBW⟩
    · have e1 : decide (M ≤ pre.length) = false := decide_eq_false (by omega)
      have hLp : pre.length < 1048576 := by omega
      gi_wp2_with (gi_at_builtin; refine wpListIn_append_own _ rfl _ _ 36 rfl w.heap.size 38 i0 (.agg #[.int .i64 0, .int .i64 0]) 2 16 Try.underlying36 HI.out HZ0.out HZ1.out HZ2.out rfl (by decide) _ _ _ rfl (hrow.alloc _) ⟨W.heap.size, 0, none⟩ 1 1 [.int .i64 (xk : Nat), .int .i64 xr] rfl rfl (cell_two_new _ _ _ _) (by simp [Value.oneCell']) (by unfold maxLen; omega) (by omega) (by simp; omega) ?_; intro v' w1 hown' hgrow _; obtain ⟨g', cap', rfl⟩ := ownsRow_succ hown'; obtain ⟨hv1, hv2, hr2, hk2, hb2, hbx, _⟩ := boxed_app (n₁ := w.heap.size) hv (by decide) hrow (Nat.le_refl _) (by omega) (by omega) hown' hgrow; have hc1 := hv1.cell; have hf1 := hv1.frozen; (have D0 := Lib.hid (hbx _ _ _ c0 (by decide) (by omega))); (have D3 := Lib.hid (hbx _ _ _ c3 (by decide) (by omega))); (have D2 := Lib.hid (hbx _ _ _ c2 (by decide) (by omega))); (have HV2 := Lib.hid hv2); (have HR2 := Lib.hid hr2); (have HK2 := Lib.hid hk2); (have HB2 := Lib.hid hb2); clear hv1 hv2 hr2 hk2 hb2 hbx hown' hgrow)
      refine ⟨HK2.out.from _, D3.out.trans c3.symm, ⟨_, HV2.out, ?_, by simp; omega⟩, ⟨D0.out, D2.out, D3.out⟩, hBW.trans HB2.out⟩
      rw [List.map_append, seenCs_snoc_map]
      simpa using HR2.out
  case done =>
    rintro D ys W hD hS ⟨hI, ⟨c0, c2, c3⟩, hBW⟩ hK
    exact after D W hD (hI.done hS) ⟨c0, c2, c3⟩ hBW hK
  case stop =>
    rintro D c pre W hD hSp ⟨rfl, hO, ⟨c0, c2, c3⟩, hBW⟩ hK
    gi_wp2
    exact after D W hD (hO.done hSp) ⟨c0, c2, c3⟩ hBW hK
end Go.Proofs.Ythloijpnbljpeaa
