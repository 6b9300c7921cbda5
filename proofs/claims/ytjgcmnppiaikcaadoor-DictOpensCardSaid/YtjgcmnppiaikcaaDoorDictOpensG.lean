/- DoG DictOpens DictOpensG, laid as one. -/
import Derived.Test.YtjgcmnppiaikcaaDoorDoF
import Derived.Test.YtjgcmnppiaikcaaDoorPkL
import Derived.Test.YtjgcmnppiaikcaaDoorDlA
import Derived.Test.YtjgcmnppiaikcaaDoorFault3
import Derived.Test.YtjgcmnppiaikcaaDoorQu
import Derived.Test.YtjgcmnppiaikcaaDoorDlL
import Derived.Laws.StructEq
set_option linter.unusedVariables false
set_option linter.unusedSimpArgs false
/- The document's Open, of bytes whose head is right: ahead of its loop. -/
namespace Go.Tk
open Go Go.RowKit
theorem u8_of {zs : List Int} (h : ∀ x ∈ zs, 0 ≤ x ∧ x < 256) : U8 zs := fun i hi => by
  have := h zs[i] (List.getElem_mem hi)
  simpa [hi] using this
theorem wh_callxD {P : Program} {ops : Array Oper} {Q : Exit → Act → World → Prop} {md : Region.Mode} {S : World → Prop} (i d : Nat) (R : Value → World → Prop) {o : Oper} {fuel : Nat} {listed : Array Bool} {a : Act} {w : World} {f : FuncId} {args : Array Value} (hi : ops[i]? = some o) (hd : o.dst = some d) (hg : o.guard = none) (hr : Region.ready md ops listed = [i])
    (he : (execOp a.eval o).run P w = .ok (.enter f args) w) (hc : Calls P f args w fun e w' => ∃ v, e = .returned v ∧ R v w') (hS : ∀ v w', R v w' → S w')
    (h : ∀ v w', R v w' → wpAnyH P md ops Q S fuel (listed.setIfInBounds i true) ⟨a.tmps.setIfInBounds d v, a.defers⟩ w') : wpAnyH P md ops Q S (fuel + 1) listed a w := by
  refine wpAnyH_all hr (by simp) fun j hj => ?_
  obtain rfl : j = i := by simpa using hj
  unfold Go.wpOp
  simp only [hi, wanted_free (ops := ops) (x := a.tmps) hg, if_true, Oper.wp, he, Oper.upon]
  refine .inl (hc.mono ?_)
  rintro e w' ⟨v, rfl, hR⟩
  refine ⟨hS v w' hR, ?_⟩
  have := h v w' hR
  rw [hd]
  exact this
theorem blO {n k : Nat} (h : k = (n + 15) / 16) : ((n : Int) + 16 - 1) / 16 = (k : Int) := by omega
theorem u64O {n : Nat} (h : n ≤ 100000000) : IntKind.u64.wrap (n : Int) = (n : Int) := by rw [IntKind.wrap_u64]; omega
end Go.Tk
namespace Go.Proofs.YtjgcmnppiaikcaaDoor
open Go.RowKit Go.Tk
/-- What Open's loop says, whatever it began with. -/
def LoopO (w : World) (b : List UInt8) : Prop := True
set_option maxRecDepth 100000 in
set_option maxHeartbeats 2000000 in
theorem ropen_yes (w : World) (a : Option Addr) (c : Nat) (b : List UInt8) (hs : SlI .u8 w a b.length c (nums b)) (he : (shE b).1 = 0) :
    Calls Tryd.prog 7 #[.slice a b.length c] w fun e w' => ∃ v, e = .returned (.tuple #[v, flV ((opE b).1, (opE b).2)]) ∧ Below w.heap.size w w' := by
  have HI2 := Lib.hid Tryd.sizeFlO
  have hok := (sh_ok he).1
  have hsh := (sh_ok he).2
  have hop : opE b = if opErr (nums (hdP b)) ((hdN b + 15) / 16 : Nat) (hdW b : Nat) ≠ 0 then (opErr (nums (hdP b)) ((hdN b + 15) / 16 : Nat) (hdW b : Nat), hd4 b - 1) else if (opL (hdE b) (nums (hdP b)) (hdW b) (hdN b) (hdN b) 0 0 []).1 ≠ 0 then ((opL (hdE b) (nums (hdP b)) (hdW b) (hdN b) (hdN b) 0 0 []).1, hd4 b + (opL (hdE b) (nums (hdP b)) (hdW b) (hdN b) (hdN b) 0 0 []).2) else (0, 0) := by
    unfold opE; rw [if_neg (by rw [he]; simp)]
  have hwd : bw ((hdS b : Nat) : Int) = (hdW b : Nat) := by rw [← hok.bV]; exact hok.wV
  have hlen := hok.len
  have hS26 := hok.bS
  have hN22 := hok.aN
  have hW27 := hok.wN
  have h3ge := hd3_ge hok
  have h3le := hd3_le b
  have h34 : hd3 b ≤ hd4 b := by unfold hd4; omega
  have hPl : (hdP b).length = hd4 b - hd3 b := by unfold hdP; rw [List.length_take, List.length_drop]; omega
  have hP8 : (nums (hdP b)).length = ((hdN b + 15) / 16 * hdW b + 7) / 8 := by rw [nums_len, hPl]; unfold hd4; omega
  have h4le : hd4 b ≤ 1000000 := by
    have : (hdN b + 15) / 16 * hdW b ≤ 262144 * 27 := Nat.mul_le_mul (by omega) hW27
    unfold hd4
    omega
  have h2e : opErr (nums (hdP b)) ((hdN b + 15) / 16 : Nat) (hdW b : Nat) = 0 ∨ opErr (nums (hdP b)) ((hdN b + 15) / 16 : Nat) (hdW b : Nat) = 12 := opErr_two (by omega) (by omega) hP8
  have hle := hs.le
  have hmx := hs.max
  have hcut := fun W (hb : Below w.heap.size w W) => SlI.cut (hs.keep hb) (hd3 b) (hd4 b - hd3 b) (by omega)
  have hcz : ((nums b).drop (hd3 b)).take (hd4 b - hd3 b) = nums (hdP b) := by unfold hdP; rw [← nums_take, ← nums_drop]
  rw [hcz] at hcut
  have hsub1 : hd3 b + (hd4 b - hd3 b) - hd3 b = hd4 b - hd3 b := by omega
  rw [hsub1] at hcut
  have hpu : U8 (nums (hdP b)) := u8_of (nums_u8 _)
  have hhv : hdV b = .agg #[.int .i64 (hdN b : Nat), .int .i64 (hdS b : Nat), .int .i64 (hd3 b : Nat), .int .i64 (hd4 b : Nat)] := by unfold hdV; rw [if_pos he]
  have hfv : flV ((shE b).1, (shE b).2) = .agg #[.int .i64 0, .int .i64 0] := by rw [hsh]; rfl
  have hrow : (w.alloc (.cells #[.int .i64 0, .int .i64 0] 31)).heap[w.heap.size]? = some (.cells #[.int .i64 0, .int .i64 0] 31 (0, 0)) := heap_alloc_new w _
  have hB0 := (Below.refl w.heap.size w).alloc (Nat.le_refl _) (.cells #[.int .i64 0, .int .i64 0] 31)
  have hhd := rhead_calls _ a c b (hs.keep hB0)
  rw [hfv, hhv] at hhd
  have HH := Lib.hid hhd
  have HROW := Lib.hid hrow
  have HB0 := Lib.hid hB0
  have HOK := Lib.hid hok
  have HOPE := Lib.hid hop
  have HS := Lib.hid hs
  have HCUT := Lib.hid hcut
  have HPU := Lib.hid hpu
  have H2E := Lib.hid h2e
  have HLEN := Lib.hid hlen
  clear hhd hs hrow hB0 hhv hfv he hok hsh hop hcut hcz hsub1 hpu h2e hP8 hPl hlen
  go_enter Tryd.func7, Tryd.ntmps7
  go_upto_region 2 with (go_at_call 19; (with_reducible refine HH.out.mono ?_); rintro e w1 ⟨rfl, hb⟩; (have HR1 := Lib.hid ((hb.block w.heap.size (lt_of_block HROW.out)).trans HROW.out)); (have HB1 := Lib.hid (HB0.out.trans (hb.mono HB0.out.size))); clear hb)
  have hRo : RoS w ((w1.alloc (.cells #[.int .i64 (hdN b : Nat), .int .i64 (hdS b : Nat), .int .i64 (hd3 b : Nat), .int .i64 (hd4 b : Nat)] 35)).alloc (.cells #[.int .i64 0, .int .i64 0] 31)) w.heap.size w1.heap.size b :=
    ⟨(Below.heap_alloc _ _ _ (by have := lt_of_block HR1.out; simp; omega)).trans ((Below.heap_alloc _ _ _ (lt_of_block HR1.out)).trans HR1.out), (Below.heap_alloc _ _ _ (by simp)).trans (heap_alloc_new _ _), (HB1.out.alloc HB1.out.size _).alloc (by have := HB1.out.size; simp; omega) _, Nat.le_refl _⟩
  have hr5 : ((w1.alloc (.cells #[.int .i64 (hdN b : Nat), .int .i64 (hdS b : Nat), .int .i64 (hd3 b : Nat), .int .i64 (hd4 b : Nat)] 35)).alloc (.cells #[.int .i64 0, .int .i64 0] 31)).heap[w1.heap.size + 1]? = some (.cells #[.int .i64 0, .int .i64 0] 31 (0, 0)) := by
    have := heap_alloc_new (w1.alloc (.cells #[.int .i64 (hdN b : Nat), .int .i64 (hdS b : Nat), .int .i64 (hd3 b : Nat), .int .i64 (hd4 b : Nat)] 35)) (.cells #[.int .i64 0, .int .i64 0] 31)
    simpa using this
  have hlt := lt_of_block HR1.out
  generalize (w1.alloc (.cells #[.int .i64 (hdN b : Nat), .int .i64 (hdS b : Nat), .int .i64 (hd3 b : Nat), .int .i64 (hd4 b : Nat)] 35)).alloc (.cells #[.int .i64 0, .int .i64 0] 31) = w2 at hRo hr5 ⊢
  generalize hg5 : w1.heap.size + 1 = g5 at hr5 ⊢
  generalize hg4 : w1.heap.size = g4 at hRo hlt ⊢
  generalize hg : w.heap.size = g at hRo hlt ⊢
  have m5 : w2.cell? ⟨g5, 1, none⟩ = some (.int .i64 0) := cell_of_row w2 g5 1 _ _ _ hr5
  have HRO := Lib.hid hRo
  have HNE := Lib.hid (show g4 ≠ g by omega)
  have HG := Lib.hid hg
  clear hr5 hRo hg5 hg4 hg hlt HR1 HB1 HB0 HROW HH
  go_upto_region 4 with fail
  obtain ⟨N, hN⟩ : ∃ N, N = hdN b := ⟨_, rfl⟩
  obtain ⟨Sz, hSz⟩ : ∃ N, N = hdS b := ⟨_, rfl⟩
  obtain ⟨T3, hT3⟩ : ∃ N, N = hd3 b := ⟨_, rfl⟩
  obtain ⟨T4, hT4⟩ : ∃ N, N = hd4 b := ⟨_, rfl⟩
  obtain ⟨wd, hWd⟩ : ∃ N, N = hdW b := ⟨_, rfl⟩
  obtain ⟨bl, hbl⟩ : ∃ N, N = (hdN b + 15) / 16 := ⟨_, rfl⟩
  obtain ⟨pz, hpz⟩ : ∃ z, z = nums (hdP b) := ⟨_, rfl⟩
  obtain ⟨h0, h1, h2, h3⟩ := HRO.out.hs
  have HR4 := Lib.hid HRO.out.r4
  rw [← hN] at h0 hN22
  rw [← hSz] at h1 hS26 hwd
  rw [← hT3] at h2 h3ge h3le h34
  rw [← hT4] at h3 h34 h4le
  rw [← hWd] at hwd hW27
  rw [← hN, ← hSz, ← hT3, ← hT4] at HR4
  have hblN : bl = (N + 15) / 16 := by rw [hbl, hN]
  have hbl1 := blO hblN
  rw [← hbl, ← hWd, ← hpz] at H2E
  rw [← hbl, ← hWd, ← hpz, ← hT4, ← hN] at HOPE
  rw [← hT3, ← hT4, ← hpz] at HCUT
  rw [← hpz] at HPU
  rw [← hSz, ← hT4] at HLEN
  obtain ⟨OE, hOE⟩ : ∃ z, z = opErr pz (bl : Nat) (wd : Nat) := ⟨_, rfl⟩
  rw [← hOE] at H2E HOPE
  have HOE := Lib.hid hOE
  have HN := Lib.hid hN
  have HT4 := Lib.hid hT4
  have HWd := Lib.hid hWd
  have HPZ := Lib.hid hpz
  have HBL := Lib.hid hblN
  obtain ⟨A4, hA4⟩ : ∃ A4, A4 = (if c = T3 then a else Option.map (fun x => x.add T3) a) := ⟨_, rfl⟩
  obtain ⟨mo, hmo⟩ : ∃ mo, mo = T4 - T3 := ⟨_, rfl⟩
  obtain ⟨c4, hc4⟩ : ∃ c4, c4 = c - T3 := ⟨_, rfl⟩
  rw [← hA4, ← hmo, ← hc4] at HCUT
  have hA4' := hA4.symm
  have hmo' := hmo.symm
  have hc4' := hc4.symm
  have hT4c : T4 ≤ c := by have := HLEN.out; omega
  have hSw := u64O (n := Sz) (by omega)
  have HOP := Lib.hid (fun W (hb : Below w.heap.size w W) => ropen_calls W A4 mo c4 pz (HCUT.out W hb) HPU.out (bl : Nat) (wd : Nat))
  have hwi := fun w' => rwidth_calls (Sz : Int) w' (by omega) (by omega)
  simp only [hwd] at hwi
  have HWI := Lib.hid hwi
  have h34' : T3 ≤ T4 := h34
  clear hOE hN hSz hT3 hT4 hWd hbl hblN hpz hA4 hmo hc4 hwi hwd m5
  go_upto_region 5 with fail
  simp only [hbl1]
  clear hbl1
-- R5
  have hT41 : 1 ≤ T4 := by omega
  have hs5 : w2.drew.heap[g4]? = some (.cells #[.int .i64 (N : Nat), .int .i64 (Sz : Nat), .int .i64 (T3 : Nat), .int .i64 (T4 : Nat)] 35 (0, 0)) := HR4.out
  have HR3 := Lib.hid (HRO.out.below (Below.drew (Below.refl w2.heap.size w2)))
  have HOP3 := Lib.hid (HOP.out w2.drew HR3.out.bl)
  refine wh_startN (S := fun W => W.heap[g4]? = some (.cells #[.int .i64 (N : Nat), .int .i64 (Sz : Nat), .int .i64 (T3 : Nat), .int .i64 (T4 : Nat)] 35 (0, 0))) 17 rfl (by kernel_rfl) ?_
  generalize w2.drew = w3 at hs5 HR3 HOP3 ⊢
  refine wh_takeD 0 32 (.slice a b.length c) rfl rfl rfl (by kernel_rfl) (by kernel_rfl) (by kernel_rfl) (fun _ _ _ _ h => h) hs5 (fun w' h => by simp [go_sem]) ?_
  simp only [List.setIfInBounds_toArray, List.set_cons_succ, List.set_cons_zero]
  refine wh_takeD 1 33 (.pointer (some ⟨g4, 2, none⟩)) rfl rfl rfl (by kernel_rfl) (by kernel_rfl) (by kernel_rfl) (fun _ _ _ _ h => h) hs5 (fun w' h => by simp [go_sem]) ?_
  simp only [List.setIfInBounds_toArray, List.set_cons_succ, List.set_cons_zero]
  refine wh_takeD 2 34 (.int .i64 (T3 : Nat)) rfl rfl rfl (by kernel_rfl) (by kernel_rfl) (by kernel_rfl) (fun _ _ _ _ h => h) hs5 (fun w' h => by have k := cell_of_row w' g4 2 _ _ _ h; simp at k; simp [go_sem, k]) ?_
  simp only [List.setIfInBounds_toArray, List.set_cons_succ, List.set_cons_zero]
  refine wh_takeD 3 35 (.pointer (some ⟨g4, 3, none⟩)) rfl rfl rfl (by kernel_rfl) (by kernel_rfl) (by kernel_rfl) (fun _ _ _ _ h => h) hs5 (fun w' h => by simp [go_sem]) ?_
  simp only [List.setIfInBounds_toArray, List.set_cons_succ, List.set_cons_zero]
  refine wh_takeD 4 36 (.int .i64 (T4 : Nat)) rfl rfl rfl (by kernel_rfl) (by kernel_rfl) (by kernel_rfl) (fun _ _ _ _ h => h) hs5 (fun w' h => by have k := cell_of_row w' g4 3 _ _ _ h; simp at k; simp [go_sem, k]) ?_
  simp only [List.setIfInBounds_toArray, List.set_cons_succ, List.set_cons_zero]
  refine wh_takeD 5 37 (.slice A4 mo c4) rfl rfl rfl (by kernel_rfl) (by kernel_rfl) (by kernel_rfl) (fun _ _ _ _ h => h) hs5 (fun w' h => by simp [go_sem, h34', hT4c, hA4', hmo', hc4']) ?_
  simp only [List.setIfInBounds_toArray, List.set_cons_succ, List.set_cons_zero]
  refine wh_takeD 6 38 (.int .i64 (bl : Nat)) rfl rfl rfl (by kernel_rfl) (by kernel_rfl) (by kernel_rfl) (fun _ _ _ _ h => h) hs5 (fun w' h => by simp [go_sem]) ?_
  simp only [List.setIfInBounds_toArray, List.set_cons_succ, List.set_cons_zero]
  refine wh_takeD 7 39 (.pointer (some ⟨g4, 1, none⟩)) rfl rfl rfl (by kernel_rfl) (by kernel_rfl) (by kernel_rfl) (fun _ _ _ _ h => h) hs5 (fun w' h => by simp [go_sem]) ?_
  simp only [List.setIfInBounds_toArray, List.set_cons_succ, List.set_cons_zero]
  refine wh_takeD 8 40 (.int .i64 (Sz : Nat)) rfl rfl rfl (by kernel_rfl) (by kernel_rfl) (by kernel_rfl) (fun _ _ _ _ h => h) hs5 (fun w' h => by have k := cell_of_row w' g4 1 _ _ _ h; simp at k; simp [go_sem, k]) ?_
  simp only [List.setIfInBounds_toArray, List.set_cons_succ, List.set_cons_zero]
  refine wh_takeD 9 41 (.int .u64 (Sz : Nat)) rfl rfl rfl (by kernel_rfl) (by kernel_rfl) (by kernel_rfl) (fun _ _ _ _ h => h) hs5 (fun w' h => by simp [go_sem, hSw]) ?_
  simp only [List.setIfInBounds_toArray, List.set_cons_succ, List.set_cons_zero]
  refine wh_callD 10 42 (.int .i64 (wd : Nat)) (fun W => w3 = W) rfl rfl rfl (by kernel_rfl) (by simp [go_sem]) ((HWI.out w3).mono fun e W ⟨h1, h2⟩ => ⟨h1, h2⟩) (fun W h => by rw [← h]; exact hs5) ?_
  rintro _ rfl
  simp only [List.setIfInBounds_toArray, List.set_cons_succ, List.set_cons_zero]
  refine wh_callxD 11 43 (fun v W => ∃ v7, v = .tuple #[v7, .int .i64 OE] ∧ Below w3.heap.size w3 W ∧ (OE = 0 → (wd : Int) ≠ 0 → ∃ g, v7 = .slice (some ⟨g, 0, none⟩) bl bl ∧ w3.heap.size ≤ g ∧ RowI .u64 59 W g (fillT pz wd bl bl 0)) ∧ (OE ≠ 0 ∨ (wd : Int) = 0 → v7 = .slice none 0 0)) rfl rfl rfl (by kernel_rfl) (by simp [go_sem]) (HOP3.out.mono fun e W ⟨v7, h1, h2, h3, h4⟩ => ⟨_, h1, v7, by rw [HOE.out], h2, (by rw [HOE.out]; exact h3), (by rw [HOE.out]; exact h4)⟩) (fun v W ⟨v7, _, h2, _⟩ => (h2.block _ (lt_of_block hs5)).trans hs5) ?_
  rintro _ w5 ⟨v7, rfl, hb5, hyes, hno⟩
  have hs6 := (hb5.block _ (lt_of_block hs5)).trans hs5
  simp only [List.setIfInBounds_toArray, List.set_cons_succ, List.set_cons_zero]
  refine wh_takeD 12 31 (.tuple #[v7, .int .i64 OE]) rfl rfl rfl (by kernel_rfl) (by kernel_rfl) (by kernel_rfl) (fun _ _ _ _ h => h) hs6 (fun w' h => by simp [go_sem]) ?_
  simp only [List.setIfInBounds_toArray, List.set_cons_succ, List.set_cons_zero]
  refine wh_takeD 13 44 (v7) rfl rfl rfl (by kernel_rfl) (by kernel_rfl) (by kernel_rfl) (fun _ _ _ _ h => h) hs6 (fun w' h => by simp [go_sem]) ?_
  simp only [List.setIfInBounds_toArray, List.set_cons_succ, List.set_cons_zero]
  refine wh_takeD 14 45 (.int .i64 OE) rfl rfl rfl (by kernel_rfl) (by kernel_rfl) (by kernel_rfl) (fun _ _ _ _ h => h) hs6 (fun w' h => by simp [go_sem]) ?_
  simp only [List.setIfInBounds_toArray, List.set_cons_succ, List.set_cons_zero]
  refine wh_takeD 15 7 (v7) rfl rfl rfl (by kernel_rfl) (by kernel_rfl) (by kernel_rfl) (fun _ _ _ _ h => h) hs6 (fun w' h => by simp [go_sem]) ?_
  simp only [List.setIfInBounds_toArray, List.set_cons_succ, List.set_cons_zero]
  refine wh_takeD 16 8 (.int .i64 OE) rfl rfl rfl (by kernel_rfl) (by kernel_rfl) (by kernel_rfl) (fun _ _ _ _ h => h) hs6 (fun w' h => by simp [go_sem]) ?_
  simp only [List.setIfInBounds_toArray, List.set_cons_succ, List.set_cons_zero]
  refine wpAnyH_done (by kernel_rfl) ?_ 0
  have HR5 := Lib.hid (HR3.out.below hb5)
  have HYES := Lib.hid hyes
  have HNO := Lib.hid hno
  clear hb5 hyes hno hs5 hs6 HR3 HOP3 HOP HWI hA4' hmo' hc4' hSw HR4 HRO h34' hT4c h34 h0 h1 h2 h3
-- R5 END
  go_upto_region 6 with fail
  rcases H2E.out with hE0 | hE12
  rotate_left
  · subst hE12
    have hope := HOPE.out
    rw [if_pos (by decide)] at hope
    obtain ⟨T5, hT5⟩ : ∃ T5 : Nat, T4 = T5 + 1 := ⟨T4 - 1, by omega⟩
    have hT5i : (T4 : Int) - 1 = (T5 : Int) := by omega
    have hT5w : IntKind.i64.wrap (T5 : Int) = (T5 : Int) := i64S (by omega)
    have HFV := Lib.hid (show flV ((opE b).1, (opE b).2) = .agg #[.int .i64 (T5 : Nat), .int .i64 12] by rw [hope, hT5]; rfl)
    have hs7 : w5.drew.heap[g4]? = some (.cells #[.int .i64 (hdN b : Nat), .int .i64 (hdS b : Nat), .int .i64 (hd3 b : Nat), .int .i64 (hd4 b : Nat)] 35 (0, 0)) := HR5.out.r4
    rw [← HT4.out] at hs7
    clear hope
    go_upto_region 7 with fail
    refine wh_startN (S := fun W => W.heap[g4]? = some (.cells #[.int .i64 (hdN b : Nat), .int .i64 (hdS b : Nat), .int .i64 (hd3 b : Nat), .int .i64 (T4 : Nat)] 35 (0, 0))) 6 rfl (by kernel_rfl) ?_
    refine wh_takeD 0 48 (.pointer (some ⟨g4, 3, none⟩)) rfl rfl rfl (by kernel_rfl) (by kernel_rfl) (by kernel_rfl) (fun _ _ _ _ h => h) hs7 (fun w' h => by simp [go_sem]) ?_
    simp only [List.setIfInBounds_toArray, List.set_cons_succ, List.set_cons_zero]
    refine wh_takeD 1 49 (.int .i64 (T4 : Nat)) rfl rfl rfl (by kernel_rfl) (by kernel_rfl) (by kernel_rfl) (fun _ _ _ _ h => h) hs7 (fun w' h => by have k := cell_of_row w' g4 3 _ _ _ h; simp at k; simp [go_sem, k]) ?_
    simp only [List.setIfInBounds_toArray, List.set_cons_succ, List.set_cons_zero]
    refine wh_takeD 2 50 (.int .i64 (T5 : Nat)) rfl rfl rfl (by kernel_rfl) (by kernel_rfl) (by kernel_rfl) (fun _ _ _ _ h => h) hs7 (fun w' h => by simp [go_sem, hT5i, hT5w]) ?_
    simp only [List.setIfInBounds_toArray, List.set_cons_succ, List.set_cons_zero]
    refine wh_takeD 3 51 (.agg #[.int .i64 (T5 : Nat), .int .i64 12]) rfl rfl rfl (by kernel_rfl) (by kernel_rfl) (by kernel_rfl) (fun _ _ _ _ h => h) hs7 (fun w' h => by kernel_rfl) ?_
    simp only [List.setIfInBounds_toArray, List.set_cons_succ, List.set_cons_zero]
    refine wh_takeD 4 2 (.slice none 0 0) rfl rfl rfl (by kernel_rfl) (by kernel_rfl) (by kernel_rfl) (fun _ _ _ _ h => h) hs7 (fun w' h => by simp [go_sem]) ?_
    simp only [List.setIfInBounds_toArray, List.set_cons_succ, List.set_cons_zero]
    refine wh_skipD 5 (w' := w5.drew.setRow g #[.int .i64 (T5 : Nat), .int .i64 12]) rfl rfl rfl (by kernel_rfl) (by exact run_store_rowO 31 _ _ rfl g _ (by simp [go_sem]) (by simp [go_sem]) 31 _ HR5.out.r3 HI2.out rfl (by simp [Value.oneCell'])) ((setRow_other _ _ _ _ HNE.out).trans hs7) ?_
    refine wpAnyH_done (by kernel_rfl) ?_ 0
    have hfin := setRow_heap w5.drew g _ #[.int .i64 (T5 : Nat), .int .i64 12] _ _ HR5.out.r3
    have hbf : Below w.heap.size w (w5.drew.setRow g #[.int .i64 (T5 : Nat), .int .i64 12]) := below_setRow (Below.drew HR5.out.bl) (Nat.le_of_eq HG.out) _
    generalize w5.drew.setRow g #[.int .i64 (T5 : Nat), .int .i64 12] = w6 at hfin hbf ⊢
    have HX := Lib.hid hfin
    have HBF := Lib.hid hbf
    clear hfin hbf hs7 hT5 hT5i hT5w
    simp only [go_sem, List.setIfInBounds_toArray, List.set_cons_succ, List.set_cons_zero]
    go_wp2
    refine bodyPost_ret (results_tcO rfl _ _ g _ _ _ _ rfl HX.out Tryd.underlying31 rfl HI2.out) rfl ⟨⟨_, by rw [HFV.out]⟩, HBF.out⟩
  subst hE0
  have hfin : ∀ (E : Int) (p : Nat), opL (hdE b) pz wd N N 0 0 [] = (E, p) → E ≠ 0 → flV ((opE b).1, (opE b).2) = .agg #[.int .i64 ((T4 + p : Nat) : Int), .int .i64 E] := fun E p h hE => by
    rw [HOPE.out, h, if_neg (by simp), if_pos hE]; rfl
  have hfin0 : opL (hdE b) pz wd N N 0 0 [] = (0, 0) → flV ((opE b).1, (opE b).2) = .agg #[.int .i64 0, .int .i64 0] := fun h => by
    rw [HOPE.out, h, if_neg (by simp), if_neg (by simp)]; rfl
  have hnb : ∀ W, Below w5.heap.size w5 W → ∀ k : Nat, k < bl → Calls Tryd.prog 22 #[v7, .int .i64 (k : Nat)] W fun e w' => e = .returned (.int .u64 (numT pz wd k wd : Nat)) ∧ W = w' := fun W hW k hk => by
    by_cases h0 : wd = 0
    · rw [HNO.out (.inr (by omega)), h0]
      exact rnumb_none W k
    · obtain ⟨gp, h1, _, h2⟩ := HYES.out rfl (by omega)
      rw [h1]
      have := rnumb_row W gp bl _ (RowI.below h2 hW h2.lt) (by simp [fillT]) (by have := HBL.out; omega) k hk
      rw [fill_all k hk] at this
      exact this
  have HFIN := Lib.hid hfin
  have HFIN0 := Lib.hid hfin0
  have HNB := Lib.hid hnb
  have hel : (hdE b).length = Sz := by
    have h1 := HOK.out.len
    have h2 := HLEN.out
    rw [← HT4.out] at h1
    unfold hdE
    rw [List.length_take, List.length_drop, ← HT4.out]
    omega
  have HEL := Lib.hid hel
  have HINIT := Lib.hid (show opL (hdE b) pz wd N N 0 0 [] = opL (hdE b) pz wd N (N - 0) 0 0 [] by rw [Nat.sub_zero])
  obtain ⟨h0, h1, h2, h3⟩ := HR5.out.hs
  rw [← HT4.out] at h3
  clear hfin hfin0 hnb hel h0 h1 h2 HOPE HYES HNO H2E HPU HCUT
  go_wp2
  clear h3
  go_loopw [9, 10, 11] (fun lv pv iv wr => ∃ (i p : Nat) (T : List (List UInt8)) (last : List UInt8), iv = .int .i64 (i : Nat) ∧ pv = .int .i64 ((T4 + p : Nat) : Int) ∧ i ≤ N ∧ p ≤ Sz ∧ OwL 9 w5.heap.size wr lv T ∧ T.length = i ∧ (0 < i → T.getD (i - 1) [] = last) ∧ (i = 0 → last = []) ∧ last.length ≤ 262144 ∧ opL (hdE b) pz wd N N 0 0 [] = opL (hdE b) pz wd N (N - i) i p last ∧ Below w5.heap.size w5 wr) (fun _ _ iv _ => N - (intOf iv).toNat)
  case atStart => exact ⟨0, 0, [], [], rfl, rfl, Nat.zero_le _, Nat.zero_le _, OwL.nil _ _ _, rfl, (fun h => by omega), (fun _ => rfl), by simp, HINIT.out, Below.refl _ _⟩
  case round =>
    obtain ⟨i, p, T, last, rfl, rfl, hi, hp, how, hTl, hlast, hlast0, hll, hrun, hb⟩ := hrel
    have HB := Lib.hid hb
    have HOW := Lib.hid how
    have HRr := Lib.hid (HR5.out.below hb)
    have HRUN := Lib.hid hrun
    obtain ⟨h0, _, _, h3⟩ := HRr.out.hs
    rw [← HN.out] at h0
    rw [← HT4.out] at h3
    obtain ⟨c0, c1, ff⟩ := HRr.out.cs
    obtain ⟨X, hX⟩ : ∃ X, X = T4 + p := ⟨_, rfl⟩
    have hX2 : ((T4 + p : Nat) : Int) = (X : Int) := by rw [hX]
    rw [hX2]
    have HX := Lib.hid hX
    clear hb how hrun hX hX2
    by_cases hlt : i < N
    rotate_left
    · obtain rfl : i = N := by omega
      have hend := HRUN.out
      rw [Nat.sub_self] at hend
      simp only [opL] at hend
      rw [HEL.out] at hend
      by_cases hpS : p < Sz
      · rw [if_pos hpS] at hend
        have HF := Lib.hid (HFIN.out 13 p hend (by decide))
        rw [← HX.out] at HF
        have ed : decide (X < b.length) = true := decide_eq_true (by have := HLEN.out; have := HX.out; omega)
        have ed2 : decide ((X : Int) < (b.length : Int)) = true := decide_eq_true (by have := HLEN.out; have := HX.out; omega)
        clear hend hpS hlt hi
        go_wp2
        refine bodyPost_ret (results_tcO rfl _ _ g _ _ _ _ rfl (RoS.sto HRr.out (.int .i64 (X : Nat)) (.int .i64 13)).1 Tryd.underlying31 rfl HI2.out) rfl ?_
        first | exact ⟨_, by rw [HF.out], (RoS.sto HRr.out (.int .i64 (X : Nat)) (.int .i64 13)).2⟩ | exact ⟨⟨_, by rw [HF.out]⟩, (RoS.sto HRr.out (.int .i64 (X : Nat)) (.int .i64 13)).2⟩
      · rw [if_neg hpS] at hend
        have HF := Lib.hid (HFIN0.out hend)
        have ed : decide (X < b.length) = false := decide_eq_false (by have := HLEN.out; have := HX.out; omega)
        have ed2 : decide ((X : Int) < (b.length : Int)) = false := decide_eq_false (by have := HLEN.out; have := HX.out; omega)
        clear hend hpS hlt hi
        go_wp2
        refine bodyPost_ret (results_tcO rfl _ _ g _ _ _ _ rfl (RoS.sto HRr.out (.int .i64 0) (.int .i64 0)).1 Tryd.underlying31 rfl HI2.out) rfl ?_
        first | exact ⟨_, by rw [HF.out], (RoS.sto HRr.out (.int .i64 0) (.int .i64 0)).2⟩ | exact ⟨⟨_, by rw [HF.out]⟩, (RoS.sto HRr.out (.int .i64 0) (.int .i64 0)).2⟩
    obtain ⟨f, hf⟩ : ∃ f, N - i = f + 1 := ⟨N - i - 1, by omega⟩
    have hstep := HRUN.out
    rw [hf] at hstep
    simp only [opL] at hstep
    obtain ⟨lastB, hLB⟩ : ∃ lastB : ByteArray, lastB = ⟨last.toArray⟩ := ⟨_, rfl⟩
    have HLD := Lib.hid (show lastB.data.toList = last by rw [hLB])
    have hlB : lastB.size ≤ 262144 := by rw [Lib.size_eq, HLD.out]; exact hll
    have hbp : X ≤ b.length := by have := HLEN.out; have := HX.out; omega
    have hb8 : b.length ≤ 100000000 := by have := HLEN.out; omega
    have hpE : p ≤ (hdE b).length := by rw [HEL.out]; exact hp
    have HSR := Lib.hid (HS.out.keep HRr.out.bl)
    by_cases h16 : i % 16 = 0
    · by_cases hz0 : i = 0
      · skip
        subst hz0
        have hl0 := hlast0 rfl
        subst hl0
        have hlb : lastB = ⟨#[]⟩ := hLB
        subst hlb
        have e16 : ((0 : Nat) : Int) % 16 = 0 := by decide
        have hd16 : decide (0 % 16 = 0) = true := rfl
        rw [hd16] at hstep
        obtain ⟨q1, q2, q3, q4⟩ := ent_shift HOK.out p hpE true []
        rw [← HT4.out, ← HX.out] at q1 q2 q3 q4
        have hinv := ent_inv (eb := hdE b) (p := p) (first := true) (last := [])
        have hen := fun W (hb' : Below wr.heap.size wr W) => rentry_calls W a c b (HSR.out.keep hb') hb8 X hbp true ⟨#[]⟩ hlB
        simp only [HLD.out, q1, q2] at hen
        obtain ⟨nb, hnb⟩ : ∃ nb, nb = (entP b ((X : Nat) : Int) true []).2.1 := ⟨_, rfl⟩
        rw [← hnb] at q3
        simp only [← hnb] at hen
        obtain ⟨en, hene⟩ : ∃ en, en = entP (hdE b) (p : Nat) true [] := ⟨_, rfl⟩
        rw [← hene] at hstep q3 hinv
        simp only [← hene] at hen
        obtain ⟨st, nx, er⟩ := en
        simp only at hstep q3 hinv hen
        obtain ⟨sB, hsB⟩ : ∃ sB : ByteArray, sB = ⟨st.toArray⟩ := ⟨_, rfl⟩
        simp only [← hsB] at hen
        have HEN := Lib.hid hen
        have HINV := Lib.hid hinv
        have HQ3 := Lib.hid q3
        have HQ4 := Lib.hid q4
        have HST := Lib.hid hstep
        have HSB := Lib.hid hsB
        clear hen hinv q1 q2 q3 q4 hstep hsB hnb hene
        have hXT : (X : Int) - (T4 : Int) = (p : Int) := by have := HX.out; omega
        have hpw : IntKind.u64.wrap (p : Int) = (p : Int) := u64O (by omega)
        clear hd16 hlast0 hLB hlast
        have HTL := Lib.hid hTl
        clear hTl
        have hkb : 0 < bl := by have := HBL.out; omega
        obtain ⟨nm, hnm⟩ : ∃ nm, nm = numT pz wd 0 wd := ⟨_, rfl⟩
        have hnw := fun n' => HNB.out (wr.drewN n') (below_drewN HB.out n') 0 hkb
        simp only [← hnm] at hnw
        have HNW := Lib.hid hnw
        have hcond := HST.out
        rw [show 0 / 16 = 0 from rfl, ← hnm] at hcond
        have HCO := Lib.hid hcond
        clear hcond hnw hnm HST
        by_cases hnp : nm = p
        rotate_left
        · have en : ((nm : Int) != (p : Int)) = true := by simp; omega
          have HF := Lib.hid (HFIN.out 161 p (by have h := HCO.out; rw [if_pos ⟨by first | trivial | exact h16, hnp⟩] at h; exact h) (by decide))
          rw [← HX.out] at HF
          clear hnp
          go_upto_region 14 with fail
          go_quiet ((go_at_call 22; (with_reducible exact quiet_eq (HNW.out _))))
          have HR6 := Lib.hid (HRr.out.below (below_drewN (Below.refl wr.heap.size wr) nq))
          generalize wr.drewN nq = w6 at HR6 ⊢
          clear c0 c1 ff h0 h3
          obtain ⟨c0, c1, ff⟩ := HR6.out.cs
          go_wp2
          refine bodyPost_ret (results_tcO rfl _ _ g _ _ _ _ rfl (RoS.sto HR6.out (.int .i64 (X : Nat)) (.int .i64 161)).1 Tryd.underlying31 rfl HI2.out) rfl ?_
          first | exact ⟨_, by rw [HF.out], (RoS.sto HR6.out (.int .i64 (X : Nat)) (.int .i64 161)).2⟩ | exact ⟨⟨_, by rw [HF.out]⟩, (RoS.sto HR6.out (.int .i64 (X : Nat)) (.int .i64 161)).2⟩
        have HNP := Lib.hid hnp
        have en : ((nm : Int) != (p : Int)) = false := by simp [hnp]
        have hst2 := HCO.out
        rw [if_neg (fun h => h.2 hnp)] at hst2
        have HST := Lib.hid hst2
        clear hst2
        clear hnp
        go_upto_region 14 with fail
        go_quiet ((go_at_call 22; (with_reducible exact quiet_eq (HNW.out _))))
        have HR6 := Lib.hid (HRr.out.below (below_drewN (Below.refl wr.heap.size wr) nq))
        have HB6 := Lib.hid (below_drewN (Below.refl wr.heap.size wr) nq)
        have HOW6 := Lib.hid (HOW.out.drewN nq)
        generalize hw6 : wr.drewN nq = w6 at HR6 HB6 HOW6 ⊢
        clear hw6 c0 c1 ff h0 h3 en HNW
        have HEN6 := Lib.hid (HEN.out w6 HB6.out)
        go_upto_region 20 with (go_at_call 23; (with_reducible refine HEN6.out.mono ?_); rintro e w7 ⟨rfl, m7, hm7⟩)
        subst hm7
        have HR7 := Lib.hid (HR6.out.below (below_drewN (Below.refl w6.heap.size w6) m7))
        have HB7 := Lib.hid (below_drewN HB6.out m7)
        have HOW7 := Lib.hid (HOW6.out.drewN m7)
        clear HR6 HB6 HOW6 HEN6 HEN
        generalize w6.drewN m7 = w7 at HR7 HB7 HOW7 ⊢
        by_cases her : er = 0
        rotate_left
        · have e9 : (er != 0) = true := by simp [her]
          have HF := Lib.hid (HFIN.out er p (by have h := HST.out; rw [if_pos her] at h; exact h) her)
          rw [← HX.out] at HF
          obtain ⟨c0, c1, ff⟩ := HR7.out.cs
          clear her
          go_wp2
          refine bodyPost_ret (results_tcO rfl _ _ g _ _ _ _ rfl (RoS.sto HR7.out (.int .i64 (X : Nat)) (.int .i64 er)).1 Tryd.underlying31 rfl HI2.out) rfl ?_
          first | exact ⟨_, by rw [HF.out], (RoS.sto HR7.out (.int .i64 (X : Nat)) (.int .i64 er)).2⟩ | exact ⟨⟨_, by rw [HF.out]⟩, (RoS.sto HR7.out (.int .i64 (X : Nat)) (.int .i64 er)).2⟩
        subst her
        have hst := HST.out
        rw [if_neg (by simp)] at hst
        obtain ⟨k1, k2, cc, mm, j1, j2, j3, j4, j5, j6, j7, j8, j9⟩ := HINV.out rfl
        obtain ⟨p2, hp2⟩ : ∃ p2, p2 = p + k2 + mm := ⟨_, rfl⟩
        have hnx : nx = (p2 : Int) := by rw [j9, hp2]
        have hp2S : p2 ≤ Sz := by rw [nums_len, List.length_drop, HEL.out] at j3; omega
        have hstl : st.length ≤ 262144 := by rw [j8, List.length_append, List.length_take, List.length_take]; omega
        have hnbv : nb = ((T4 + p2 : Nat) : Int) := by have h := HQ3.out rfl; rw [h, hnx]; omega
        rw [hnx, Int.toNat_natCast] at hst
        have HNB2 := Lib.hid hnbv
        have HP2 := Lib.hid hp2S
        have HSTL := Lib.hid hstl
        have hsbs : sB.size ≤ 262144 := by rw [HSB.out]; simpa [ByteArray.size] using hstl
        have hsv : strV' st = .string sB := by rw [HSB.out]; rfl
        have HSV := Lib.hid hsv
        clear j1 j2 j3 j4 j5 j6 j7 j8 j9 hp2 hnx hp2S hstl hnbv hsv HINV HQ3 HQ4 HST
        rw [if_neg (fun h => by first | exact absurd h.1 (by decide) | exact h.1)] at hst
        rw [if_neg (fun h => by first | exact h.1 rfl | exact absurd trivial h.1 | exact h.1)] at hst
        have HREC := Lib.hid hst
        clear hst hsbs
        go_upto_region 26 with fail
        have HB8 := HB7
        have HOW8 := HOW7
        have hz8 : w5.heap.size ≤ w7.heap.size := Nat.le_trans HB.out.size HB8.out.size
        have hTb : T.length ≤ 4194304 := by have := HTL.out; omega
        go_wp2_with (at_builtin; refine wpList_appL rfl _ _ 29 rfl w5.heap.size 9 (.string ⟨#[]⟩) Tryd.underlying29 Tryd.infoStrO rfl _ T rfl (HOW8.out.alloc _) w7.heap.size 1 1 [st] rfl rfl (0, 0) (by rw [List.map_cons, List.map_nil, HSV.out]; exact heap_alloc_new _ _) (by simp; omega) (by simp; omega) ?_; intro v9 w9 hown9 hgrow9 _; (have HW9 := Lib.hid hown9); (have HG9 := Lib.hid hgrow9); clear hown9 hgrow9)
        go_roundw
        case rel =>
          refine ⟨0 + 1, p2, T ++ [st], st, by go_num, by rw [HNB2.out], by omega, HP2.out, HW9.out, by rw [List.length_append, HTL.out]; rfl, fun _ => by rw [← HTL.out]; simp, fun h => by omega, HSTL.out, ?_, ?_⟩
          · rw [HREC.out, show N - (0 + 1) = f by omega]
          · exact ((HB.out.trans (HB8.out.mono HB.out.size)).alloc hz8 _).grown HG9.out (by simp; omega) (fun k e => (HOW8.out.lt k e).1)
        case measure => simp [intOf]; omega
      · skip
        have e16 : ((i : Int) % 16 == 0) = true := by rw [show (i : Int) % 16 = 0 by omega]; rfl
        have hd16 : decide (i % 16 = 0) = true := decide_eq_true h16
        rw [hd16] at hstep
        obtain ⟨q1, q2, q3, q4⟩ := ent_shift HOK.out p hpE true last
        rw [← HT4.out, ← HX.out] at q1 q2 q3 q4
        have hinv := ent_inv (eb := hdE b) (p := p) (first := true) (last := last)
        have hen := fun W (hb' : Below wr.heap.size wr W) => rentry_calls W a c b (HSR.out.keep hb') hb8 X hbp true lastB hlB
        simp only [HLD.out, q1, q2] at hen
        obtain ⟨nb, hnb⟩ : ∃ nb, nb = (entP b ((X : Nat) : Int) true last).2.1 := ⟨_, rfl⟩
        rw [← hnb] at q3
        simp only [← hnb] at hen
        obtain ⟨en, hene⟩ : ∃ en, en = entP (hdE b) (p : Nat) true last := ⟨_, rfl⟩
        rw [← hene] at hstep q3 hinv
        simp only [← hene] at hen
        obtain ⟨st, nx, er⟩ := en
        simp only at hstep q3 hinv hen
        obtain ⟨sB, hsB⟩ : ∃ sB : ByteArray, sB = ⟨st.toArray⟩ := ⟨_, rfl⟩
        simp only [← hsB] at hen
        have HEN := Lib.hid hen
        have HINV := Lib.hid hinv
        have HQ3 := Lib.hid q3
        have HQ4 := Lib.hid q4
        have HST := Lib.hid hstep
        have HSB := Lib.hid hsB
        clear hen hinv q1 q2 q3 q4 hstep hsB hnb hene
        have hXT : (X : Int) - (T4 : Int) = (p : Int) := by have := HX.out; omega
        have hpw : IntKind.u64.wrap (p : Int) = (p : Int) := u64O (by omega)
        obtain ⟨va, vc, rfl, vl, vm, vcell⟩ := HOW.out.sl
        obtain ⟨i1, hi1⟩ : ∃ i1, i1 = i - 1 := ⟨_, rfl⟩
        obtain ⟨gl, hgl, hcl⟩ := vcell i1 (by omega)
        subst hgl
        have hTi : T[i1]'(by omega) = last := by have h := hlast (by omega); rw [← hi1] at h; rw [← h]; simp [show i1 < T.length by omega]
        have hcl' : wr.cell? ⟨gl, i1, none⟩ = some (.string lastB) := by rw [hcl, hLB, hTi]
        have hi1i : (i : Int) - 1 = (i1 : Int) := by omega
        have hi1l : i1 < i := by omega
        have hi1w : IntKind.i64.wrap (i1 : Int) = (i1 : Int) := i64S (by omega)
        rw [hTl] at HOW vl
        rw [hTl]
        have HTL := Lib.hid hTl
        clear vcell hcl hi1 hlast hTl hTi
        clear hd16 hlast0 hLB
        obtain ⟨k16, hk16⟩ : ∃ k16, k16 = i / 16 := ⟨_, rfl⟩
        have hk16i : (i : Int) / 16 = (k16 : Int) := by omega
        have hkb : k16 < bl := by have := HBL.out; omega
        obtain ⟨nm, hnm⟩ : ∃ nm, nm = numT pz wd k16 wd := ⟨_, rfl⟩
        have hnw := fun n' => HNB.out (wr.drewN n') (below_drewN HB.out n') k16 hkb
        simp only [← hnm] at hnw
        have HNW := Lib.hid hnw
        have hcond := HST.out
        rw [← hk16, ← hnm] at hcond
        have HCO := Lib.hid hcond
        clear hcond hnw hnm HST hk16
        by_cases hnp : nm = p
        rotate_left
        · have en : ((nm : Int) != (p : Int)) = true := by simp; omega
          have HF := Lib.hid (HFIN.out 161 p (by have h := HCO.out; rw [if_pos ⟨by first | trivial | exact h16, hnp⟩] at h; exact h) (by decide))
          rw [← HX.out] at HF
          clear hnp
          go_upto_region 14 with fail
          go_quiet ((go_at_call 22; (with_reducible exact quiet_eq (HNW.out _))))
          have HR6 := Lib.hid (HRr.out.below (below_drewN (Below.refl wr.heap.size wr) nq))
          generalize wr.drewN nq = w6 at HR6 ⊢
          clear c0 c1 ff h0 h3 hcl'
          obtain ⟨c0, c1, ff⟩ := HR6.out.cs
          go_wp2
          refine bodyPost_ret (results_tcO rfl _ _ g _ _ _ _ rfl (RoS.sto HR6.out (.int .i64 (X : Nat)) (.int .i64 161)).1 Tryd.underlying31 rfl HI2.out) rfl ?_
          first | exact ⟨_, by rw [HF.out], (RoS.sto HR6.out (.int .i64 (X : Nat)) (.int .i64 161)).2⟩ | exact ⟨⟨_, by rw [HF.out]⟩, (RoS.sto HR6.out (.int .i64 (X : Nat)) (.int .i64 161)).2⟩
        have HNP := Lib.hid hnp
        have en : ((nm : Int) != (p : Int)) = false := by simp [hnp]
        have hst2 := HCO.out
        rw [if_neg (fun h => h.2 hnp)] at hst2
        have HST := Lib.hid hst2
        clear hst2
        clear hnp
        go_upto_region 14 with fail
        go_quiet ((go_at_call 22; (with_reducible exact quiet_eq (HNW.out _))))
        have HR6 := Lib.hid (HRr.out.below (below_drewN (Below.refl wr.heap.size wr) nq))
        have HB6 := Lib.hid (below_drewN (Below.refl wr.heap.size wr) nq)
        have HOW6 := Lib.hid (HOW.out.drewN nq)
        have hcl6 : (wr.drewN nq).cell? ⟨gl, i1, none⟩ = some (.string lastB) := hcl'
        generalize hw6 : wr.drewN nq = w6 at HR6 HB6 HOW6 hcl6 ⊢
        clear hw6 c0 c1 ff h0 h3 hcl' en HNW
        have HEN6 := Lib.hid (HEN.out w6 HB6.out)
        go_upto_region 20 with (go_at_call 23; (with_reducible refine HEN6.out.mono ?_); rintro e w7 ⟨rfl, m7, hm7⟩)
        subst hm7
        have HR7 := Lib.hid (HR6.out.below (below_drewN (Below.refl w6.heap.size w6) m7))
        have HB7 := Lib.hid (below_drewN HB6.out m7)
        have HOW7 := Lib.hid (HOW6.out.drewN m7)
        clear HR6 HB6 HOW6 HEN6 HEN hcl6
        generalize w6.drewN m7 = w7 at HR7 HB7 HOW7 ⊢
        by_cases her : er = 0
        rotate_left
        · have e9 : (er != 0) = true := by simp [her]
          have HF := Lib.hid (HFIN.out er p (by have h := HST.out; rw [if_pos her] at h; exact h) her)
          rw [← HX.out] at HF
          obtain ⟨c0, c1, ff⟩ := HR7.out.cs
          clear her
          go_wp2
          refine bodyPost_ret (results_tcO rfl _ _ g _ _ _ _ rfl (RoS.sto HR7.out (.int .i64 (X : Nat)) (.int .i64 er)).1 Tryd.underlying31 rfl HI2.out) rfl ?_
          first | exact ⟨_, by rw [HF.out], (RoS.sto HR7.out (.int .i64 (X : Nat)) (.int .i64 er)).2⟩ | exact ⟨⟨_, by rw [HF.out]⟩, (RoS.sto HR7.out (.int .i64 (X : Nat)) (.int .i64 er)).2⟩
        subst her
        have hst := HST.out
        rw [if_neg (by simp)] at hst
        obtain ⟨k1, k2, cc, mm, j1, j2, j3, j4, j5, j6, j7, j8, j9⟩ := HINV.out rfl
        obtain ⟨p2, hp2⟩ : ∃ p2, p2 = p + k2 + mm := ⟨_, rfl⟩
        have hnx : nx = (p2 : Int) := by rw [j9, hp2]
        have hp2S : p2 ≤ Sz := by rw [nums_len, List.length_drop, HEL.out] at j3; omega
        have hstl : st.length ≤ 262144 := by rw [j8, List.length_append, List.length_take, List.length_take]; omega
        have hnbv : nb = ((T4 + p2 : Nat) : Int) := by have h := HQ3.out rfl; rw [h, hnx]; omega
        rw [hnx, Int.toNat_natCast] at hst
        have HNB2 := Lib.hid hnbv
        have HP2 := Lib.hid hp2S
        have HSTL := Lib.hid hstl
        have hsbs : sB.size ≤ 262144 := by rw [HSB.out]; simpa [ByteArray.size] using hstl
        have hsv : strV' st = .string sB := by rw [HSB.out]; rfl
        have HSV := Lib.hid hsv
        clear j1 j2 j3 j4 j5 j6 j7 j8 j9 hp2 hnx hp2S hstl hnbv hsv HINV HQ3 HQ4 HST
        obtain ⟨lt, hlt9⟩ : ∃ lt, lt = ltB last st := ⟨_, rfl⟩
        have hle1 : ∀ Y, (binOp .leq 9 (.string sB) (.string lastB)).run Tryd.prog Y = .ok (.bool (!lt)) Y := fun Y => run_leqD _ _ _ _ _ _ (by rw [HSB.out, HLD.out, hlt9])
        rw [← hlt9] at hst
        clear hlt9
        have HREC0 := Lib.hid hst
        clear hst hsbs
        cases lt with
        | false =>
          have HF := Lib.hid (HFIN.out 160 p (by have h := HREC0.out; rw [if_pos ⟨by omega, rfl⟩] at h; exact h) (by decide))
          rw [← HX.out] at HF
          obtain ⟨c0, c1, ff⟩ := HR7.out.cs
          go_wp2
          refine bodyPost_ret (results_tcO rfl _ _ g _ _ _ _ rfl (RoS.sto HR7.out (.int .i64 (X : Nat)) (.int .i64 160)).1 Tryd.underlying31 rfl HI2.out) rfl ?_
          first | exact ⟨_, by rw [HF.out], (RoS.sto HR7.out (.int .i64 (X : Nat)) (.int .i64 160)).2⟩ | exact ⟨⟨_, by rw [HF.out]⟩, (RoS.sto HR7.out (.int .i64 (X : Nat)) (.int .i64 160)).2⟩
        | true =>
          have hst := HREC0.out
          rw [if_neg (fun h => by cases h.2)] at hst
          clear HREC0
          rw [if_neg (fun h => h.1 h16)] at hst
          have HREC := Lib.hid hst
          clear hst
          go_upto_region 26 with fail
          have HB8 := HB7
          have HOW8 := HOW7
          have hz8 : w5.heap.size ≤ w7.heap.size := Nat.le_trans HB.out.size HB8.out.size
          have hTb : T.length ≤ 4194304 := by have := HTL.out; omega
          go_wp2_with (at_builtin; refine wpList_appL rfl _ _ 29 rfl w5.heap.size 9 (.string ⟨#[]⟩) Tryd.underlying29 Tryd.infoStrO rfl _ T rfl (HOW8.out.alloc _) w7.heap.size 1 1 [st] rfl rfl (0, 0) (by rw [List.map_cons, List.map_nil, HSV.out]; exact heap_alloc_new _ _) (by simp; omega) (by simp; omega) ?_; intro v9 w9 hown9 hgrow9 _; (have HW9 := Lib.hid hown9); (have HG9 := Lib.hid hgrow9); clear hown9 hgrow9)
          go_roundw
          case rel =>
            refine ⟨i + 1, p2, T ++ [st], st, by go_num, by rw [HNB2.out], by omega, HP2.out, HW9.out, by rw [List.length_append, HTL.out]; rfl, fun _ => by rw [← HTL.out]; simp, fun h => by omega, HSTL.out, ?_, ?_⟩
            · rw [HREC.out, show N - (i + 1) = f by omega]
            · exact ((HB.out.trans (HB8.out.mono HB.out.size)).alloc hz8 _).grown HG9.out (by simp; omega) (fun k e => (HOW8.out.lt k e).1)
          case measure => simp [intOf]; omega
    · skip
      have hz0 : ¬ i = 0 := fun h => by rw [h] at h16; exact h16 rfl
      have e16 : ((i : Int) % 16 == 0) = false := by rw [beq_eq_false_iff_ne]; omega
      have hd16 : decide (i % 16 = 0) = false := decide_eq_false h16
      rw [hd16] at hstep
      obtain ⟨q1, q2, q3, q4⟩ := ent_shift HOK.out p hpE false last
      rw [← HT4.out, ← HX.out] at q1 q2 q3 q4
      have hinv := ent_inv (eb := hdE b) (p := p) (first := false) (last := last)
      have hen := fun W (hb' : Below wr.heap.size wr W) => rentry_calls W a c b (HSR.out.keep hb') hb8 X hbp false lastB hlB
      simp only [HLD.out, q1, q2] at hen
      obtain ⟨nb, hnb⟩ : ∃ nb, nb = (entP b ((X : Nat) : Int) false last).2.1 := ⟨_, rfl⟩
      rw [← hnb] at q3
      simp only [← hnb] at hen
      obtain ⟨en, hene⟩ : ∃ en, en = entP (hdE b) (p : Nat) false last := ⟨_, rfl⟩
      rw [← hene] at hstep q3 hinv
      simp only [← hene] at hen
      obtain ⟨st, nx, er⟩ := en
      simp only at hstep q3 hinv hen
      obtain ⟨sB, hsB⟩ : ∃ sB : ByteArray, sB = ⟨st.toArray⟩ := ⟨_, rfl⟩
      simp only [← hsB] at hen
      have HEN := Lib.hid hen
      have HINV := Lib.hid hinv
      have HQ3 := Lib.hid q3
      have HQ4 := Lib.hid q4
      have HST := Lib.hid hstep
      have HSB := Lib.hid hsB
      clear hen hinv q1 q2 q3 q4 hstep hsB hnb hene
      have hXT : (X : Int) - (T4 : Int) = (p : Int) := by have := HX.out; omega
      have hpw : IntKind.u64.wrap (p : Int) = (p : Int) := u64O (by omega)
      obtain ⟨va, vc, rfl, vl, vm, vcell⟩ := HOW.out.sl
      obtain ⟨i1, hi1⟩ : ∃ i1, i1 = i - 1 := ⟨_, rfl⟩
      obtain ⟨gl, hgl, hcl⟩ := vcell i1 (by omega)
      subst hgl
      have hTi : T[i1]'(by omega) = last := by have h := hlast (by omega); rw [← hi1] at h; rw [← h]; simp [show i1 < T.length by omega]
      have hcl' : wr.cell? ⟨gl, i1, none⟩ = some (.string lastB) := by rw [hcl, hLB, hTi]
      have hi1i : (i : Int) - 1 = (i1 : Int) := by omega
      have hi1l : i1 < i := by omega
      have hi1w : IntKind.i64.wrap (i1 : Int) = (i1 : Int) := i64S (by omega)
      rw [hTl] at HOW vl
      rw [hTl]
      have HTL := Lib.hid hTl
      clear vcell hcl hi1 hlast hTl hTi
      clear hd16 hlast0 hLB
      have hst2 := HST.out
      rw [if_neg (fun h => h16 h.1)] at hst2
      clear HST
      have HST := Lib.hid hst2
      clear hst2
      go_upto_region 14 with fail
      go_quiet (fail)
      have HR6 := Lib.hid (HRr.out.below (below_drewN (Below.refl wr.heap.size wr) nq))
      have HB6 := Lib.hid (below_drewN (Below.refl wr.heap.size wr) nq)
      have HOW6 := Lib.hid (HOW.out.drewN nq)
      have hcl6 : (wr.drewN nq).cell? ⟨gl, i1, none⟩ = some (.string lastB) := hcl'
      generalize hw6 : wr.drewN nq = w6 at HR6 HB6 HOW6 hcl6 ⊢
      clear hw6 c0 c1 ff h0 h3 hcl'
      have HEN6 := Lib.hid (HEN.out w6 HB6.out)
      go_upto_region 20 with (go_at_call 23; (with_reducible refine HEN6.out.mono ?_); rintro e w7 ⟨rfl, m7, hm7⟩)
      subst hm7
      have HR7 := Lib.hid (HR6.out.below (below_drewN (Below.refl w6.heap.size w6) m7))
      have HB7 := Lib.hid (below_drewN HB6.out m7)
      have HOW7 := Lib.hid (HOW6.out.drewN m7)
      clear HR6 HB6 HOW6 HEN6 HEN hcl6
      generalize w6.drewN m7 = w7 at HR7 HB7 HOW7 ⊢
      by_cases her : er = 0
      rotate_left
      · have e9 : (er != 0) = true := by simp [her]
        have HF := Lib.hid (HFIN.out er p (by have h := HST.out; rw [if_pos her] at h; exact h) her)
        rw [← HX.out] at HF
        obtain ⟨c0, c1, ff⟩ := HR7.out.cs
        clear her
        go_wp2
        refine bodyPost_ret (results_tcO rfl _ _ g _ _ _ _ rfl (RoS.sto HR7.out (.int .i64 (X : Nat)) (.int .i64 er)).1 Tryd.underlying31 rfl HI2.out) rfl ?_
        first | exact ⟨_, by rw [HF.out], (RoS.sto HR7.out (.int .i64 (X : Nat)) (.int .i64 er)).2⟩ | exact ⟨⟨_, by rw [HF.out]⟩, (RoS.sto HR7.out (.int .i64 (X : Nat)) (.int .i64 er)).2⟩
      subst her
      have hst := HST.out
      rw [if_neg (by simp)] at hst
      obtain ⟨k1, k2, cc, mm, j1, j2, j3, j4, j5, j6, j7, j8, j9⟩ := HINV.out rfl
      obtain ⟨p2, hp2⟩ : ∃ p2, p2 = p + k2 + mm := ⟨_, rfl⟩
      have hnx : nx = (p2 : Int) := by rw [j9, hp2]
      have hp2S : p2 ≤ Sz := by rw [nums_len, List.length_drop, HEL.out] at j3; omega
      have hstl : st.length ≤ 262144 := by rw [j8, List.length_append, List.length_take, List.length_take]; omega
      have hnbv : nb = ((T4 + p2 : Nat) : Int) := by have h := HQ3.out rfl; rw [h, hnx]; omega
      rw [hnx, Int.toNat_natCast] at hst
      have HNB2 := Lib.hid hnbv
      have HP2 := Lib.hid hp2S
      have HSTL := Lib.hid hstl
      have hsbs : sB.size ≤ 262144 := by rw [HSB.out]; simpa [ByteArray.size] using hstl
      have hsv : strV' st = .string sB := by rw [HSB.out]; rfl
      have HSV := Lib.hid hsv
      rw [if_neg (by simp)] at j6
      obtain ⟨U, hU⟩ : ∃ U, U = (upS (nums ((hdE b).drop p)) 0 0 mxU).1 := ⟨_, rfl⟩
      have hUv : (upS (nums b) X 0 mxU).1 = U := by rw [HQ4.out, hU]
      have hex := fun W (hW : SlI .u8 W a b.length c (nums b)) => rexact_calls W a c b hW X hbp sB lastB hsbs hlB (by rw [hUv, hU, j6.2]; omega)
      simp only [hUv, HLD.out, show sB.data.toList = st by rw [HSB.out]] at hex
      rw [← hU] at hst
      clear j1 j2 j3 j4 j5 j6 j7 j8 j9 hp2 hnx hp2S hstl hnbv hsv HINV HQ3 HQ4 HST hU hUv
      obtain ⟨lt, hlt9⟩ : ∃ lt, lt = ltB last st := ⟨_, rfl⟩
      have hle1 : ∀ Y, (binOp .leq 9 (.string sB) (.string lastB)).run Tryd.prog Y = .ok (.bool (!lt)) Y := fun Y => run_leqD _ _ _ _ _ _ (by rw [HSB.out, HLD.out, hlt9])
      rw [← hlt9] at hst
      clear hlt9
      have HREC0 := Lib.hid hst
      have HEX := Lib.hid hex
      clear hex
      clear hst hsbs
      cases lt with
      | false =>
        have HF := Lib.hid (HFIN.out 160 p (by have h := HREC0.out; rw [if_pos ⟨by omega, rfl⟩] at h; exact h) (by decide))
        rw [← HX.out] at HF
        obtain ⟨c0, c1, ff⟩ := HR7.out.cs
        go_wp2
        refine bodyPost_ret (results_tcO rfl _ _ g _ _ _ _ rfl (RoS.sto HR7.out (.int .i64 (X : Nat)) (.int .i64 160)).1 Tryd.underlying31 rfl HI2.out) rfl ?_
        first | exact ⟨_, by rw [HF.out], (RoS.sto HR7.out (.int .i64 (X : Nat)) (.int .i64 160)).2⟩ | exact ⟨⟨_, by rw [HF.out]⟩, (RoS.sto HR7.out (.int .i64 (X : Nat)) (.int .i64 160)).2⟩
      | true =>
        have hst := HREC0.out
        rw [if_neg (fun h => by cases h.2)] at hst
        clear HREC0
        have HEX7 := Lib.hid (HEX.out w7 (HS.out.keep HR7.out.bl))
        have HREC0 := Lib.hid hst
        clear hst HEX
        by_cases hU : U = (comN last st : Nat)
        rotate_left
        · rw [decide_eq_false hU] at HEX7
          have HF := Lib.hid (HFIN.out 161 p (by have h := HREC0.out; rw [if_pos ⟨h16, hU⟩] at h; exact h) (by decide))
          rw [← HX.out] at HF
          clear hU
          go_upto_if 117 with (go_at_call 24; (with_reducible refine HEX7.out.mono ?_); rintro e w8 ⟨rfl, m8, hm8⟩)
          subst hm8
          have HR8 := Lib.hid (HR7.out.below (below_drewN (Below.refl w7.heap.size w7) m8))
          generalize w7.drewN m8 = w8 at HR8 ⊢
          obtain ⟨c0, c1, ff⟩ := HR8.out.cs
          go_wp2
          refine bodyPost_ret (results_tcO rfl _ _ g _ _ _ _ rfl (RoS.sto HR8.out (.int .i64 (X : Nat)) (.int .i64 161)).1 Tryd.underlying31 rfl HI2.out) rfl ?_
          first | exact ⟨_, by rw [HF.out], (RoS.sto HR8.out (.int .i64 (X : Nat)) (.int .i64 161)).2⟩ | exact ⟨⟨_, by rw [HF.out]⟩, (RoS.sto HR8.out (.int .i64 (X : Nat)) (.int .i64 161)).2⟩
        rw [decide_eq_true hU] at HEX7
        have hst := HREC0.out
        rw [if_neg (fun h => h.2 hU)] at hst
        have HREC := Lib.hid hst
        clear hst hU HREC0
        go_upto_region 26 with (go_at_call 24; (with_reducible refine HEX7.out.mono ?_); rintro e w8 ⟨rfl, m8, hm8⟩)
        subst hm8
        have HR8 := Lib.hid (HR7.out.below (below_drewN (Below.refl w7.heap.size w7) m8))
        have HB8 := Lib.hid (below_drewN HB7.out m8)
        have HOW8 := Lib.hid (HOW7.out.drewN m8)
        generalize w7.drewN m8 = w8 at HR8 HB8 HOW8 ⊢
        have hz8 : w5.heap.size ≤ w8.heap.size := Nat.le_trans HB.out.size HB8.out.size
        have hTb : T.length ≤ 4194304 := by have := HTL.out; omega
        go_wp2_with (at_builtin; refine wpList_appL rfl _ _ 29 rfl w5.heap.size 9 (.string ⟨#[]⟩) Tryd.underlying29 Tryd.infoStrO rfl _ T rfl (HOW8.out.alloc _) w8.heap.size 1 1 [st] rfl rfl (0, 0) (by rw [List.map_cons, List.map_nil, HSV.out]; exact heap_alloc_new _ _) (by simp; omega) (by simp; omega) ?_; intro v9 w9 hown9 hgrow9 _; (have HW9 := Lib.hid hown9); (have HG9 := Lib.hid hgrow9); clear hown9 hgrow9)
        go_roundw
        case rel =>
          refine ⟨i + 1, p2, T ++ [st], st, by go_num, by rw [HNB2.out], by omega, HP2.out, HW9.out, by rw [List.length_append, HTL.out]; rfl, fun _ => by rw [← HTL.out]; simp, fun h => by omega, HSTL.out, ?_, ?_⟩
          · rw [HREC.out, show N - (i + 1) = f by omega]
          · exact ((HB.out.trans (HB8.out.mono HB.out.size)).alloc hz8 _).grown HG9.out (by simp; omega) (fun k e => (HOW8.out.lt k e).1)
        case measure => simp [intOf]; omega
end Go.Proofs.YtjgcmnppiaikcaaDoor
/- DictOpens: Open and View of any bytes: a dictionary, or the error and its place. -/
namespace Go.Proofs.YtjgcmnppiaikcaaDoor
open Go.RowKit Go.Tk
theorem wq_valG {P : Program} {ops : Array Oper} {C : World → Prop} {Q : Act → Prop} {o : Oper} {rest : List Oper} {a : Act} (v : Value) (hg : Region.wanted o (yielded ops a.tmps) = true) (h : ∀ w, C w → (execOp a.eval o).run P w = .ok (.value v) w) (hk : wpQuiet P ops C Q rest (a.put o.dst v)) : wpQuiet P ops C Q (o :: rest) a := by
  show if Region.wanted o (yielded ops a.tmps) then o.quiet P a C (wpQuiet P ops C Q rest) else wpQuiet P ops C Q rest (a.put o.dst undef)
  rw [if_pos hg]
  exact ⟨v, fun w hw => by unfold Oper.quietAt; rw [h w hw]; exact ⟨rfl, rfl⟩, hk⟩
theorem wq_callG {P : Program} {ops : Array Oper} {C : World → Prop} {Q : Act → Prop} {o : Oper} {rest : List Oper} {a : Act} (v : Value) (f : FuncId) (args : Array Value) (hg : Region.wanted o (yielded ops a.tmps) = true) (he : ∀ w, (execOp a.eval o).run P w = .ok (.enter f args) w) (hc : ∀ w, C w → Calls P f args w fun e w' => e = .returned v ∧ C w')
    (hk : wpQuiet P ops C Q rest (a.put o.dst v)) : wpQuiet P ops C Q (o :: rest) a := by
  show if Region.wanted o (yielded ops a.tmps) then o.quiet P a C (wpQuiet P ops C Q rest) else wpQuiet P ops C Q rest (a.put o.dst undef)
  rw [if_pos hg]
  exact ⟨v, fun w hw => by unfold Oper.quietAt; rw [he w]; exact ⟨rfl, hc w hw⟩, hk⟩
theorem fl_fields : Tryd.prog.underlying 31 = some (.struct (Tryd.prog.fieldsOf 31)) := by kernel_rfl
theorem fl_stood : Tryd.prog.stoodInHeld 31 = false := by kernel_rfl
theorem fl_guard : Tryd.prog.eqGuardType Tryd.prog.depth 31 = false := by kernel_rfl
theorem fl_eql (x y : Int) (w : World) : (binOp .eql 31 (.agg #[.int .i64 x, .int .i64 y]) (.agg #[.int .i64 x, .int .i64 y])).run Tryd.prog w = .ok (.bool true) w := by
  rw [run_eql_struct, run_equalIn_agg w 9999 _ _ _ fl_fields fl_stood]
  unfold Program.fieldsOf
  rw [Tryd.underlying31]
  simp [go_sem, Op.eqFields, part]
theorem fl_guarded (op : BinOp) (x y : Operand) (p q : Array Value) (w : World) : (eqGuard op 31 x y (.agg p) (.agg q)).run Tryd.prog w = .ok () w := run_eqGuard_agg w op _ x y p q fl_guard
theorem fault_calls (w : World) (v : Value) (x y : Int) (hg : HandleMet w) (h : EV w v x y) :
    Calls Tryd.prog 9 #[v] w fun e w' => e = .returned (.agg #[.int .i64 x, .int .i64 y]) ∧ Below w.heap.size w w' := by
  rcases h with ⟨rfl, rfl, rfl⟩ | ⟨b, _, rfl, h2⟩
  · exact fault_nil w
  · exact fault_err x y b w hg h2
theorem own_slO {w : World} {g n : Nat} {z : List Int} (h : RowI .u8 5 w g (z ++ [171, 172])) (hn : z.length = n) (hb : n ≤ 140737488351232) : SlI .u8 w (some ⟨g, 0, none⟩) n (n + 2) z := by
  have := h.sl n (n + 2) (by simp; omega) (by simp; omega) (by omega)
  have e : (z ++ [171, 172]).take n = z := by subst hn; simp
  rw [e] at this
  exact this
theorem opE_zero {b : List UInt8} (h : (opE b).1 = 0) : (opE b).2 = 0 := by
  unfold opE at h ⊢
  split
  · rename_i h1; rw [if_pos h1] at h; exact absurd h h1
  · rename_i h1
    rw [if_neg h1] at h
    split
    · rename_i h2; rw [if_pos h2] at h; exact absurd h h2
    · rename_i h2
      rw [if_neg h2] at h
      split
      · rename_i h3; rw [if_pos h3] at h; exact absurd h h3
      · rfl
theorem open_ev (w : World) (a : Option Addr) (c : Nat) (b : List UInt8) (hs : SlI .u8 w a b.length c (nums b)) (hn : a = none → c = 0) (ha : ∀ x, a = some x → x.block < w.heap.size) :
    Calls Tryd.prog 5 #[.slice a b.length c] w fun e w' => ∃ p v, e = .returned (.tuple #[.pointer p, v]) ∧ EV w' v ((opE b).2 : Nat) (opE b).1 ∧ (((opE b).1 ≠ 0 ∧ p = none) ∨ ((opE b).1 = 0 ∧ ∃ gv, p = some ⟨gv, 0, none⟩)) ∧ Below w.heap.size w w' := by
  have hop : Calls Tryd.prog 5 #[.slice a b.length c] w (OpenD w b (opE b)) := by
    by_cases h : (shE b).1 = 0
    · exact open_yes w a c b hs hn ha h
    · have : opE b = shE b := by unfold opE; rw [if_pos h]
      rw [this]
      exact open_no w a c b hs hn ha h
  refine hop.mono ?_
  rintro e w' ⟨hb, h1⟩
  rcases h1 with ⟨h2, v, rfl, hv⟩ | ⟨h2, gd, pa, pc, ea, ec, _, rfl, hd⟩
  · exact ⟨_, _, rfl, hv, .inl ⟨h2, rfl⟩, hb⟩
  · exact ⟨_, _, rfl, .inl ⟨rfl, by rw [opE_zero h2]; rfl, h2⟩, .inr ⟨h2, gd, rfl⟩, hb⟩
theorem view_ev (w : World) (a : Option Addr) (c : Nat) (b : List UInt8) (hs : SlI .u8 w a b.length c (nums b)) (hn : a = none → c = 0) (ha : ∀ x, a = some x → x.block < w.heap.size) :
    Calls Tryd.prog 6 #[.slice a b.length c] w fun e w' => ∃ p v, e = .returned (.tuple #[.pointer p, v]) ∧ EV w' v ((shE b).2 : Nat) (shE b).1 ∧ (((shE b).1 ≠ 0 ∧ p = none) ∨ ((shE b).1 = 0 ∧ ∃ gv, p = some ⟨gv, 0, none⟩)) ∧ Below w.heap.size w w' := by
  refine (view_calls w a c b hs hn ha).mono ?_
  rintro e w' ⟨hb, h1⟩
  rcases h1 with ⟨h2, v, rfl, hv⟩ | ⟨h2, gd, pa, pc, ea, ec, _, rfl, hd⟩
  · exact ⟨_, _, rfl, hv, .inl ⟨h2, rfl⟩, hb⟩
  · exact ⟨_, _, rfl, .inl ⟨rfl, by rw [(sh_ok h2).2]; rfl, h2⟩, .inr ⟨h2, gd, rfl⟩, hb⟩
theorem ropen_all (w : World) (a : Option Addr) (c : Nat) (b : List UInt8) (hs : SlI .u8 w a b.length c (nums b)) :
    Calls Tryd.prog 7 #[.slice a b.length c] w fun e w' => ∃ v, e = .returned (.tuple #[v, .agg #[.int .i64 ((opE b).2 : Nat), .int .i64 (opE b).1]]) ∧ Below w.heap.size w w' := by
  by_cases h : (shE b).1 = 0
  · exact ropen_yes w a c b hs h
  · have : opE b = shE b := by unfold opE; rw [if_pos h]
    rw [this]
    exact ropen_no w a c b hs h
/-- What stands while the answers are compared. -/
structure OpC (w0 : World) (v1 v2 : Value) (x y x2 y2 : Int) (gf gg g0 : Nat) (a : Option Addr) (c : Nat) (bs : List UInt8) (w : World) : Prop where
  hm : HandleMet w
  e1 : EV w v1 x y
  e2 : EV w v2 x2 y2
  rf : w.heap[gf]? = some (.cells #[.int .i64 x, .int .i64 y] 31 (0, 0))
  rg : w.heap[gg]? = some (.cells #[.int .i64 x2, .int .i64 y2] 31 (0, 0))
  ro : RowI .u8 5 w g0 (nums bs ++ [171, 172])
  sl : SlI .u8 w a bs.length c (nums bs)
  bl : Below w0.heap.size w0 w
theorem OpC.step {w0 v1 v2 x y x2 y2 gf gg g0 a c bs w w'} (h : OpC w0 v1 v2 x y x2 y2 gf gg g0 a c bs w) (hb : Below w.heap.size w w') : OpC w0 v1 v2 x y x2 y2 gf gg g0 a c bs w' :=
  ⟨h.hm.below hb h.hm.pos, h.e1.below hb, h.e2.below hb, (hb.block _ (lt_of_block h.rf)).trans h.rf, (hb.block _ (lt_of_block h.rg)).trans h.rg, h.ro.below hb h.ro.lt, h.sl.keep hb, h.bl.trans (hb.mono h.bl.size)⟩
set_option maxRecDepth 100000 in
set_option maxHeartbeats 8000000 in
theorem opens_go (w : World) (a : Option Addr) (c : Nat) (bs : List UInt8) (h : SlI .u8 w a bs.length c (nums bs)) (hbl : bs.length ≤ 140737488351232) (hg : HandleMet w) :
    Calls Tryd.prog 3 #[.slice a bs.length c] w fun e w' => e = .returned (.bool true) ∧ Below w.heap.size w w' := by
  have hlen := lentD_calls w a bs.length c (nums bs) h hbl
  have H := Lib.hid h
  have HLEN := Lib.hid hlen
  have HG := Lib.hid hg
  have HI := Lib.hid Tryd.sizeFlO
  obtain ⟨x, hx⟩ : ∃ x : Int, x = ((opE bs).2 : Nat) := ⟨_, rfl⟩
  obtain ⟨y, hy⟩ : ∃ y : Int, y = (opE bs).1 := ⟨_, rfl⟩
  obtain ⟨x2, hx2⟩ : ∃ x : Int, x = ((shE bs).2 : Nat) := ⟨_, rfl⟩
  obtain ⟨y2, hy2⟩ : ∃ y : Int, y = (shE bs).1 := ⟨_, rfl⟩
  have hop := fun w' a' c' hs hn ha => open_ev w' a' c' bs hs hn ha
  have hvw := fun w' a' c' hs hn ha => view_ev w' a' c' bs hs hn ha
  have hro := fun w' hs => ropen_all w' a c bs hs
  have hrv := fun w' hs => rview_calls w' a c bs hs
  obtain ⟨z0, z1, z2, z3, hz⟩ := hdV_agg bs
  have hfl : flV ((shE bs).1, (shE bs).2) = .agg #[.int .i64 x2, .int .i64 y2] := by rw [hx2, hy2]; rfl
  simp only [← hx, ← hy] at hop hro
  simp only [← hx2, ← hy2] at hvw
  simp only [hz, hfl] at hrv
  have HOPA := Lib.hid hop
  have HVWA := Lib.hid hvw
  have HROA := Lib.hid hro
  have HRVA := Lib.hid hrv
  clear h hlen hg hx hy hx2 hy2 hop hvw hro hrv hz hfl
  go_enter Tryd.func3, Tryd.ntmps3
  go_upto_region 2 with (go_at_call 4; (with_reducible refine HLEN.out.mono ?_); rintro e w2 ⟨rfl, hf⟩; (have HF := Lib.hid hf); clear hf)
  have ho := HF.out.row
  have hb2 := HF.out.below
  generalize hgg : w.heap.size = g0 at ho ⊢
  have hgle : w.heap.size ≤ g0 := Nat.le_of_eq hgg
  have HO := Lib.hid ho
  have HB2 := Lib.hid hb2
  have HGG := Lib.hid hgg
  clear ho hb2 hgg HF HLEN
  have HOP := Lib.hid (HOPA.out w2 (some ⟨g0, 0, none⟩) (bs.length + 2) (own_slO HO.out (by rw [nums_len]) hbl) (fun e => by cases e) (fun x hx => by cases hx; exact HO.out.lt))
  go_upto_region 3 with (go_at_call 5; (with_reducible refine HOP.out.mono ?_); rintro e w3 ⟨p, v, rfl, hev, hc, hb⟩; (have HE1 := Lib.hid hev); (have HB3 := Lib.hid (HB2.out.trans (hb.mono HB2.out.size))); (have HO3 := Lib.hid (HO.out.below hb HO.out.lt)); (have HC := Lib.hid hc); clear hev hb hc)
  clear HOP HB2 HO
  have HVW := Lib.hid (HVWA.out w3 (some ⟨g0, 0, none⟩) (bs.length + 2) (own_slO HO3.out (by rw [nums_len]) hbl) (fun e => by cases e) (fun x hx => by cases hx; exact HO3.out.lt))
  go_upto_region 4 with (go_at_call 6; (with_reducible refine HVW.out.mono ?_); rintro e w4 ⟨p2, v2, rfl, hev, hc, hb⟩; (have HE2 := Lib.hid hev); (have HE14 := Lib.hid (HE1.out.below hb)); (have HB4 := Lib.hid (HB3.out.trans (hb.mono HB3.out.size))); (have HO4 := Lib.hid (HO3.out.below hb HO3.out.lt)); (have HC2 := Lib.hid hc); clear hev hb hc)
  clear HVW HB3 HO3 HE1
  have HRO := Lib.hid (HROA.out w4 (H.out.keep HB4.out))
  go_upto_region 5 with (go_at_call 7; (with_reducible refine HRO.out.mono ?_); rintro e w5 ⟨vl, rfl, hb⟩; (have HE25 := Lib.hid (HE2.out.below hb)); (have HE15 := Lib.hid (HE14.out.below hb)); (have HB5 := Lib.hid (HB4.out.trans (hb.mono HB4.out.size))); (have HO5 := Lib.hid (HO4.out.below hb HO4.out.lt)); clear hb)
  clear HRO HE2 HE14 HB4 HO4
  have hrf : (w5.alloc (.cells #[.int .i64 x, .int .i64 y] 31)).heap[w5.heap.size]? = some (.cells #[.int .i64 x, .int .i64 y] 31 (0, 0)) := heap_alloc_new w5 _
  have hb56 : Below w5.heap.size w5 (w5.alloc (.cells #[.int .i64 x, .int .i64 y] 31)) := (Below.refl _ _).alloc (Nat.le_refl _) _
  generalize w5.alloc (.cells #[.int .i64 x, .int .i64 y] 31) = w6 at hrf hb56 ⊢
  generalize w5.heap.size = gf at hrf ⊢
  have HRF := Lib.hid hrf
  have HE26 := Lib.hid (HE25.out.below hb56)
  have HE16 := Lib.hid (HE15.out.below hb56)
  have HB6 := Lib.hid (HB5.out.trans (hb56.mono HB5.out.size))
  have HO6 := Lib.hid (HO5.out.below hb56 HO5.out.lt)
  clear hrf hb56 HE25 HE15 HB5 HO5
  have HRV := Lib.hid (HRVA.out w6 (H.out.keep HB6.out))
  go_upto_region 6 with (go_at_call 8; (with_reducible refine HRV.out.mono ?_); rintro e w7 ⟨rfl, hb⟩; (have HE27 := Lib.hid (HE26.out.below hb)); (have HE17 := Lib.hid (HE16.out.below hb)); (have HB7 := Lib.hid (HB6.out.trans (hb.mono HB6.out.size))); (have HO7 := Lib.hid (HO6.out.below hb HO6.out.lt)); (have HRF7 := Lib.hid ((hb.block _ (lt_of_block HRF.out)).trans HRF.out)); clear hb)
  clear HRV HE26 HE16 HB6 HO6 HRF
  have hrg : ((w7.alloc (.cells #[.int .i64 z0, .int .i64 z1, .int .i64 z2, .int .i64 z3] 35)).alloc (.cells #[.int .i64 x2, .int .i64 y2] 31)).heap[w7.heap.size + 1]? = some (.cells #[.int .i64 x2, .int .i64 y2] 31 (0, 0)) := by
    have := heap_alloc_new (w7.alloc (.cells #[.int .i64 z0, .int .i64 z1, .int .i64 z2, .int .i64 z3] 35)) (.cells #[.int .i64 x2, .int .i64 y2] 31)
    simpa using this
  have hb78 : Below w7.heap.size w7 ((w7.alloc (.cells #[.int .i64 z0, .int .i64 z1, .int .i64 z2, .int .i64 z3] 35)).alloc (.cells #[.int .i64 x2, .int .i64 y2] 31)) := ((Below.refl _ _).alloc (Nat.le_refl _) _).alloc (by simp) _
  generalize (w7.alloc (.cells #[.int .i64 z0, .int .i64 z1, .int .i64 z2, .int .i64 z3] 35)).alloc (.cells #[.int .i64 x2, .int .i64 y2] 31) = w8 at hrg hb78 ⊢
  have hc8 : OpC w v v2 x y x2 y2 gf (w7.heap.size + 1) g0 a c bs w8 := by
    have hb8 := HB7.out.trans (hb78.mono HB7.out.size)
    exact ⟨HG.out.below hb8 HG.out.pos, HE17.out.below hb78, HE27.out.below hb78, (hb78.block _ (lt_of_block HRF7.out)).trans HRF7.out, hrg, HO7.out.below hb78 HO7.out.lt, H.out.keep hb8, hb8⟩
  generalize w7.heap.size + 1 = gg at hc8 ⊢
  clear hrg hb78 HB7 HO7 HRF7 HE17 HE27 HG HOPA HVWA HROA HRVA
  refine wp_region_quiet_all (OpC w v v2 x y x2 y2 gf gg g0 a c bs) (by kernel_rfl) (by kernel_rfl) (hc8.step (Below.drew (Below.refl _ _))) ?_
  clear hc8
  obtain ⟨b1, hb1, hb1'⟩ : ∃ b1 : Bool, (∀ w' : World, (binOp .neq 24 (.pointer p) (.pointer none)).run Tryd.prog w' = .ok (.bool b1) w') ∧ b1 = (y == 0) := by
    rcases HC.out with ⟨h1, rfl⟩ | ⟨h1, gv, rfl⟩
    · exact ⟨false, fun w' => by kernel_rfl, by simp [h1]⟩
    · exact ⟨true, fun w' => by kernel_rfl, by simp [h1]⟩
  obtain ⟨b2, hb2, hb2'⟩ : ∃ b2 : Bool, (∀ w' : World, (binOp .neq 24 (.pointer p2) (.pointer none)).run Tryd.prog w' = .ok (.bool b2) w') ∧ b2 = (y2 == 0) := by
    rcases HC2.out with ⟨h1, rfl⟩ | ⟨h1, gv, rfl⟩
    · exact ⟨false, fun w' => by kernel_rfl, by simp [h1]⟩
    · exact ⟨true, fun w' => by kernel_rfl, by simp [h1]⟩
  clear HC HC2
  refine wq_val (v) rfl (fun w' h => by simp [go_sem]) ?_
  refine wq_call (.agg #[.int .i64 x, .int .i64 y]) _ _ rfl (fun w' => by simp [go_sem]) (fun w' h => (fault_calls w' v _ _ h.hm h.e1).mono fun _ w'' ⟨h1, h2⟩ => ⟨h1, h.step h2⟩) ?_
  refine wq_row rfl 31 _ rfl gf rfl _ #[.int .i64 x, .int .i64 y] _ _ (fun w' h => h.rf) Tryd.underlying31 rfl HI.out ?_
  refine wq_val (.bool true) rfl (fun w' _ => by have h1 := fl_eql x y w'; have h2 := fl_guarded; simp [go_sem, h1, h2]) ?_
  simp only [go_sem, List.setIfInBounds_toArray, List.set_cons_succ, List.set_cons_zero]
  refine wq_val (.bool true) rfl (fun w' h => by simp [go_sem]) ?_
  simp only [go_sem, List.setIfInBounds_toArray, List.set_cons_succ, List.set_cons_zero]
  refine wq_valG (v2) (by simp [Region.wanted, yielded]) (fun w' h => by simp [go_sem]) ?_
  simp only [go_sem, List.setIfInBounds_toArray, List.set_cons_succ, List.set_cons_zero]
  refine wq_callG (.agg #[.int .i64 x2, .int .i64 y2]) _ _ (by simp [Region.wanted, yielded]) (fun w' => by simp [go_sem]) (fun w' h => (fault_calls w' v2 _ _ h.hm h.e2).mono fun _ w'' ⟨h1, h2⟩ => ⟨h1, h.step h2⟩) ?_
  simp only [go_sem, List.setIfInBounds_toArray, List.set_cons_succ, List.set_cons_zero]
  refine wq_valG (.agg #[.int .i64 x2, .int .i64 y2]) (by simp [Region.wanted, yielded]) (fun w' h => run_load_row 31 _ rfl gg rfl 31 _ _ _ w' h.rg Tryd.underlying31 rfl HI.out) ?_
  simp only [go_sem, List.setIfInBounds_toArray, List.set_cons_succ, List.set_cons_zero]
  refine wq_valG (.bool true) (by simp [Region.wanted, yielded]) (fun w' _ => by have h1 := fl_eql x2 y2 w'; have h2 := fl_guarded; simp [go_sem, h1, h2]) ?_
  simp only [go_sem, List.setIfInBounds_toArray, List.set_cons_succ, List.set_cons_zero]
  refine wq_val (.bool true) rfl (fun w' h => by simp [go_sem]) ?_
  simp only [go_sem, List.setIfInBounds_toArray, List.set_cons_succ, List.set_cons_zero]
  refine wq_val (.bool true) rfl (fun w' h => by simp [go_sem]) ?_
  simp only [go_sem, List.setIfInBounds_toArray, List.set_cons_succ, List.set_cons_zero]
  refine wq_valG (.pointer p) (by simp [Region.wanted, yielded]) (fun w' h => by simp [go_sem]) ?_
  simp only [go_sem, List.setIfInBounds_toArray, List.set_cons_succ, List.set_cons_zero]
  refine wq_valG (.bool b1) (by simp [Region.wanted, yielded]) (fun w' h => by have h1 := hb1 w'; simp [go_sem] at h1 ⊢; first | exact h1 | simp [h1]) ?_
  simp only [go_sem, List.setIfInBounds_toArray, List.set_cons_succ, List.set_cons_zero]
  refine wq_valG (.pointer (some ⟨gf, 1, none⟩)) (by simp [Region.wanted, yielded]) (fun w' h => by simp [go_sem]) ?_
  simp only [go_sem, List.setIfInBounds_toArray, List.set_cons_succ, List.set_cons_zero]
  refine wq_valG (.int .i64 y) (by simp [Region.wanted, yielded]) (fun w' h => by have k1 : w'.cell? ⟨gf, 1, none⟩ = some (.int .i64 y) := cell_of_row w' gf 1 _ _ _ h.rf; simp [go_sem, k1]) ?_
  simp only [go_sem, List.setIfInBounds_toArray, List.set_cons_succ, List.set_cons_zero]
  refine wq_valG (.bool b1) (by simp [Region.wanted, yielded]) (fun w' h => by rw [hb1']; simp [go_sem]) ?_
  simp only [go_sem, List.setIfInBounds_toArray, List.set_cons_succ, List.set_cons_zero]
  refine wq_valG (.bool true) (by simp [Region.wanted, yielded]) (fun w' h => by simp [go_sem]) ?_
  simp only [go_sem, List.setIfInBounds_toArray, List.set_cons_succ, List.set_cons_zero]
  refine wq_val (.bool true) rfl (fun w' h => by simp [go_sem]) ?_
  simp only [go_sem, List.setIfInBounds_toArray, List.set_cons_succ, List.set_cons_zero]
  refine wq_val (.bool true) rfl (fun w' h => by simp [go_sem]) ?_
  simp only [go_sem, List.setIfInBounds_toArray, List.set_cons_succ, List.set_cons_zero]
  refine wq_valG (.pointer p2) (by simp [Region.wanted, yielded]) (fun w' h => by simp [go_sem]) ?_
  simp only [go_sem, List.setIfInBounds_toArray, List.set_cons_succ, List.set_cons_zero]
  refine wq_valG (.bool b2) (by simp [Region.wanted, yielded]) (fun w' h => by have h1 := hb2 w'; simp [go_sem] at h1 ⊢; first | exact h1 | simp [h1]) ?_
  simp only [go_sem, List.setIfInBounds_toArray, List.set_cons_succ, List.set_cons_zero]
  refine wq_valG (.pointer (some ⟨gg, 1, none⟩)) (by simp [Region.wanted, yielded]) (fun w' h => by simp [go_sem]) ?_
  simp only [go_sem, List.setIfInBounds_toArray, List.set_cons_succ, List.set_cons_zero]
  refine wq_valG (.int .i64 y2) (by simp [Region.wanted, yielded]) (fun w' h => by have k1 : w'.cell? ⟨gg, 1, none⟩ = some (.int .i64 y2) := cell_of_row w' gg 1 _ _ _ h.rg; simp [go_sem, k1]) ?_
  simp only [go_sem, List.setIfInBounds_toArray, List.set_cons_succ, List.set_cons_zero]
  refine wq_valG (.bool b2) (by simp [Region.wanted, yielded]) (fun w' h => by rw [hb2']; simp [go_sem]) ?_
  simp only [go_sem, List.setIfInBounds_toArray, List.set_cons_succ, List.set_cons_zero]
  refine wq_valG (.bool true) (by simp [Region.wanted, yielded]) (fun w' h => by simp [go_sem]) ?_
  simp only [go_sem, List.setIfInBounds_toArray, List.set_cons_succ, List.set_cons_zero]
  refine wq_val (.bool true) rfl (fun w' h => by simp [go_sem]) ?_
  simp only [go_sem, List.setIfInBounds_toArray, List.set_cons_succ, List.set_cons_zero]
  refine wq_val (.bool true) rfl (fun w' h => by simp [go_sem]) ?_
  simp only [go_sem, List.setIfInBounds_toArray, List.set_cons_succ, List.set_cons_zero]
  refine wq_valG (.slice (some ⟨g0, 0, none⟩) bs.length (bs.length + 2)) (by simp [Region.wanted, yielded]) (fun w' h => by simp [go_sem]) ?_
  simp only [go_sem, List.setIfInBounds_toArray, List.set_cons_succ, List.set_cons_zero]
  refine wq_valG (.slice a bs.length c) (by simp [Region.wanted, yielded]) (fun w' h => by simp [go_sem]) ?_
  simp only [go_sem, List.setIfInBounds_toArray, List.set_cons_succ, List.set_cons_zero]
  refine wq_callG (.bool true) _ _ (by simp [Region.wanted, yielded]) (fun w' => by simp [go_sem]) (fun w' h => (backD_calls w' g0 a bs.length c (nums bs) h.ro h.sl hbl).mono fun _ w'' ⟨h1, q, h2⟩ => ⟨h1, by rw [h2]; exact h.step (below_drewN (Below.refl _ _) q)⟩) ?_
  simp only [go_sem, List.setIfInBounds_toArray, List.set_cons_succ, List.set_cons_zero]
  refine wq_val (.bool true) rfl (fun w' h => by simp [go_sem]) ?_
  simp only [go_sem, List.setIfInBounds_toArray, List.set_cons_succ, List.set_cons_zero]
  refine wq_val (.bool true) rfl (fun w' h => by simp [go_sem]) ?_
  simp only [go_sem, List.setIfInBounds_toArray, List.set_cons_succ, List.set_cons_zero]
  refine wpQuiet_nil ?_
  rintro w9 h9
  go_wp2_with fail
  go_ret
  exact ⟨rfl, h9.bl⟩
end Go.Proofs.YtjgcmnppiaikcaaDoor
/- DictOpens at what comes in. -/
namespace Go.Tk
open Go Go.RowKit
def bytesU (zs : List Int) : List UInt8 := zs.map fun z => UInt8.ofNat z.toNat
theorem nums_bytesU {zs : List Int} (h : ∀ z ∈ zs, 0 ≤ z ∧ z < 256) : nums (bytesU zs) = zs := by
  unfold nums bytesU
  rw [List.map_map]
  conv => rhs; rw [← List.map_id zs]
  apply List.map_congr_left
  intro z hz
  have := h z hz
  simp
  omega
end Go.Tk
namespace Go.Proofs.YtjgcmnppiaikcaaDoor
open Go.RowKit Go.Tk
theorem opens_in (w : World) (a : Option Addr) (n c : Nat) (z : List Int) (h : IsRow .u8 w a n c z) (hb : c * 1 ≤ 140737488351232) (hg : HandleMet w) :
    Calls Tryd.prog 3 #[.slice a n c] w fun e w' => e = .returned (.bool true) ∧ Below w.heap.size w w' := by
  obtain ⟨hsl, hnil, hwf⟩ := h.sl
  have hnum : nums (bytesU (z.take n)) = z.take n := nums_bytesU (fun x hx => wf_u8 (hwf x hx))
  rw [← hnum] at hsl
  have hle := hsl.le
  have hbn : (bytesU (z.take n)).length = n := by have := hsl.len; rwa [nums_len] at this
  generalize bytesU (z.take n) = bs at hsl hbn
  subst hbn
  exact opens_go w a c bs hsl (by omega) hg
end Go.Proofs.YtjgcmnppiaikcaaDoor
