/- The scan of the program: new, Feed, End, At. -/
import Derived.Test.YthloijpnbljpeaaDoorUtfFd
set_option linter.unusedVariables false
set_option linter.unusedSimpArgs false
namespace Go.Proofs.YthloijpnbljpeaaDoor
open Go.RowKit Go.Tk
/-- The four cells of a scan. -/
def Sc4 (w : World) (g : Nat) (x0 x1 x2 x3 : Value) : Prop := w.heap[g]? = some (.cells #[x0, x1, x2, x3] 57 (0, 0))
theorem Sc4.c0 {w : World} {g : Nat} {x0 x1 x2 x3 : Value} (h : Sc4 w g x0 x1 x2 x3) : w.cell? ⟨g, 0, none⟩ = some x0 := by rw [cell_of_row w g 0 _ 57 _ h]; rfl
theorem Sc4.s0 {w : World} {g : Nat} {x0 x1 x2 x3 : Value} (h : Sc4 w g x0 x1 x2 x3) (v : Value) : Sc4 (w.setCell ⟨g, 0, none⟩ v) g v x1 x2 x3 := by unfold Sc4; rw [heap_setCell_same w g 0 _ 57 _ h]; rfl
theorem Sc4.c1 {w : World} {g : Nat} {x0 x1 x2 x3 : Value} (h : Sc4 w g x0 x1 x2 x3) : w.cell? ⟨g, 1, none⟩ = some x1 := by rw [cell_of_row w g 1 _ 57 _ h]; rfl
theorem Sc4.s1 {w : World} {g : Nat} {x0 x1 x2 x3 : Value} (h : Sc4 w g x0 x1 x2 x3) (v : Value) : Sc4 (w.setCell ⟨g, 1, none⟩ v) g x0 v x2 x3 := by unfold Sc4; rw [heap_setCell_same w g 1 _ 57 _ h]; rfl
theorem Sc4.c2 {w : World} {g : Nat} {x0 x1 x2 x3 : Value} (h : Sc4 w g x0 x1 x2 x3) : w.cell? ⟨g, 2, none⟩ = some x2 := by rw [cell_of_row w g 2 _ 57 _ h]; rfl
theorem Sc4.s2 {w : World} {g : Nat} {x0 x1 x2 x3 : Value} (h : Sc4 w g x0 x1 x2 x3) (v : Value) : Sc4 (w.setCell ⟨g, 2, none⟩ v) g x0 x1 v x3 := by unfold Sc4; rw [heap_setCell_same w g 2 _ 57 _ h]; rfl
theorem Sc4.c3 {w : World} {g : Nat} {x0 x1 x2 x3 : Value} (h : Sc4 w g x0 x1 x2 x3) : w.cell? ⟨g, 3, none⟩ = some x3 := by rw [cell_of_row w g 3 _ 57 _ h]; rfl
theorem Sc4.s3 {w : World} {g : Nat} {x0 x1 x2 x3 : Value} (h : Sc4 w g x0 x1 x2 x3) (v : Value) : Sc4 (w.setCell ⟨g, 3, none⟩ v) g x0 x1 x2 v := by unfold Sc4; rw [heap_setCell_same w g 3 _ 57 _ h]; rfl
theorem Sc4.drewN {w : World} {g : Nat} {x0 x1 x2 x3 : Value} (h : Sc4 w g x0 x1 x2 x3) (n : Nat) : Sc4 (w.drewN n) g x0 x1 x2 x3 := h
theorem Sc4.frozen {w : World} {g : Nat} {x0 x1 x2 x3 : Value} (h : Sc4 w g x0 x1 x2 x3) (i : Nat) : w.frozen? ⟨g, i, none⟩ = false := frozen_of_row w g i _ 57 h
theorem Sc4.lt {w : World} {g : Nat} {x0 x1 x2 x3 : Value} (h : Sc4 w g x0 x1 x2 x3) : g < w.heap.size := lt_of_block h
theorem Sc4.below {w w' : World} {g : Nat} {x0 x1 x2 x3 : Value} (h : Sc4 w g x0 x1 x2 x3) (hb : Below w.heap.size w w') : Sc4 w' g x0 x1 x2 x3 := (hb.block g (lt_of_block h)).trans h
/-- The scan at g has been fed p. -/
def ScanAt (w : World) (g : Nat) (p : List UInt8) : Prop := Sc4 w g (.int .i64 (p.length : Nat)) (.string ⟨(rsF p).toArray⟩) (.bool (bdF p)) (.int .i64 (if bdF p = true then (kF p : Nat) else (0 : Nat) : Nat))
theorem newscan_calls (w : World) : Calls Tryd.prog 9 #[] w fun e w' => e = .returned (.pointer (some ⟨w.heap.size, 0, none⟩)) ∧ ScanAt w' w.heap.size [] ∧ Below w.heap.size w w' := by
  go_enter Tryd.func9, Tryd.ntmps9
  go_wp2
  go_ret
  exact ⟨rfl, heap_alloc_new _ _, (Below.refl _ _).alloc (Nat.le_refl _) _⟩
theorem scan_at (w : World) (g : Nat) (p : List UInt8) (h : ScanAt w g p) : Calls Tryd.prog 16 #[.pointer (some ⟨g, 0, none⟩)] w fun e w' => e = .returned (.int .i64 (p.length : Nat)) ∧ w = w' := by
  have c0 := Sc4.c0 h
  clear h
  go_enter Tryd.func16, Tryd.ntmps16
  go_wp2
  go_ret
  exact ⟨rfl, rfl⟩
set_option maxRecDepth 100000 in
set_option maxHeartbeats 1000000 in
theorem scan_end (w : World) (g : Nat) (p : List UInt8) (h : ScanAt w g p) (hz : p.length ≤ 8000000) : Calls Tryd.prog 14 #[.pointer (some ⟨g, 0, none⟩)] w fun e w' => ∃ v, e = .returned v ∧ EV w' v (if tlF p = [] then 0 else (kF p : Int)) (if tlF p = [] then 0 else 40) ∧ Below w.heap.size w w' := by
  unfold ScanAt at h
  by_cases hb : bdF p = true
  · have ht := (bd_never hb []).2
    rw [if_neg ht, if_neg ht]
    rw [hb] at h
    have c2 := h.c2
    have c3 := h.c3
    rw [if_pos rfl] at c3
    clear h
    go_enter Tryd.func14, Tryd.ntmps14
    go_wp2_with (go_at_call 24; refine (wrong_calls _ _ _).mono ?_; rintro e w1 ⟨rfl, rfl⟩)
    go_ret
    exact ⟨_, rfl, .inr ⟨_, by decide, rfl, heap_alloc_new _ _⟩, (Below.refl _ _).alloc (Nat.le_refl _) _⟩
  · have hb' : bdF p = false := by simpa using hb
    have hrs : rsF p = tlF p := by unfold rsF; rw [if_neg hb]
    rw [hb', hrs] at h
    have hle := k_le p
    have htl := tl_len p
    by_cases ht : tlF p = []
    · rw [if_pos ht, if_pos ht]
      rw [ht] at h
      have c2 := h.c2
      have c1 := h.c1
      clear h htl hle ht hrs hb hb'
      go_enter Tryd.func14, Tryd.ntmps14
      go_wp2
      go_ret
      exact ⟨_, rfl, EV.nil _, Below.refl _ _⟩
    · rw [if_neg ht, if_neg ht]
      obtain ⟨R, hR⟩ : ∃ R : ByteArray, R = ⟨(tlF p).toArray⟩ := ⟨_, rfl⟩
      rw [← hR] at h
      have hRs : R.size = (tlF p).length := by rw [hR]; simp [ByteArray.size]
      have hRl : (R.toList == []) = false := by
        rw [hR, Lib.toList_data]
        exact beq_false_of_ne ht
      have c2 := h.c2
      have c1 := h.c1
      have c0 := h.c0
      have hk : (p.length : Int) - (R.size : Int) = (kF p : Int) := by rw [hRs, htl]; omega
      have hz2 : R.size ≤ p.length := by rw [hRs, htl]; omega
      clear h htl hle ht hrs hb hb' hR hRs
      go_enter Tryd.func14, Tryd.ntmps14
      go_wp2_with fail
      refine wp_region_quiet_tail (fun w' => ∃ n, w' = World.drewN _ n) 10 (by kernel_rfl) (by kernel_rfl) ⟨1, rfl⟩ ?_
      simp only [List.take_succ_cons, List.take_zero, List.drop_succ_cons, List.drop_zero]
      repeat (go_big_quiet_step (fail))
      refine wpQuiet_nil ?_
      rintro _ ⟨n1, rfl⟩
      go_wp2_with (go_at_call 24; refine (wrong_calls _ _ _).mono ?_; rintro e w1 ⟨rfl, rfl⟩)
      go_ret
      exact ⟨_, rfl, .inr ⟨_, by decide, rfl, heap_alloc_new _ _⟩, (below_drewN (Below.refl _ _) _).alloc (Nat.le_refl _) _⟩
theorem heap_alloc_set (w : World) (p : Addr) (v : Value) (o : Obj) : ((w.setCell p v).alloc o).heap[w.heap.size]? = (((w.setCell p v).alloc o).heap[(w.setCell p v).heap.size]?) := by simp [World.setCell]
theorem heap_alloc_at (w : World) (o : Obj) (n : Nat) (h : w.heap.size = n) : (w.alloc o).heap[n]? = some o := by subst h; exact heap_alloc_new _ _
theorem size_set (w : World) (p : Addr) (v : Value) : (w.setCell p v).heap.size = w.heap.size := by simp [World.setCell]
theorem kept_below {w w' w2 : World} {g : Nat} (h : Kept (fun j => j = g) w w') (hb : Below w'.heap.size w' w2) : Kept (fun j => j = g) w w2 := h.trans (Kept.none_of_below hb) (fun i hi => absurd hi id)
theorem kept_set {w w' : World} {g : Nat} (h : Kept (fun j => j = g) w w') (i : Nat) (v : Value) : Kept (fun j => j = g) w (w'.setCell ⟨g, i, none⟩ v) := Kept.setCell h (p := ⟨g, i, none⟩) (.inl rfl) v
theorem ow_kept {k : IntKind} {e : TypeId} {base : Nat} {w : World} {v : Value} {zs : List Int} (h : Ow k e base w v zs) {g : Nat} (hv : v.ownBlock ≠ some g) (i : Nat) (x : Value) : Ow k e base (w.setCell ⟨g, i, none⟩ x) v zs :=
  h.kept2 (S := fun j => j = g) (kept_set (Kept.refl _ w) i x) (fun g' hg' e => by subst e; exact hv hg')
set_option maxRecDepth 100000 in
set_option maxHeartbeats 1000000 in
theorem feed_bad (w : World) (g : Nat) (p b : List UInt8) (v : Value) (base : Nat) (h : ScanAt w g p) (hv : Ow .u8 5 base w v (nums b)) (hz : p.length + b.length ≤ 8000000) (hb : bdF p = true) :
    Calls Tryd.prog 11 #[.pointer (some ⟨g, 0, none⟩), v] w fun e w' => ∃ x, e = .returned x ∧ EV w' x (kF p) 40 ∧ ScanAt w' g (p ++ b) ∧ Kept (fun j => j = g) w w' := by
  obtain ⟨a, c, rfl, hsl, _⟩ := hv.sl
  obtain ⟨s1, _, s3⟩ := bd_stays hb b
  unfold ScanAt at h
  have hrs : rsF p = [] := by unfold rsF; rw [if_pos hb]
  have hrs2 : rsF (p ++ b) = [] := by unfold rsF; rw [if_pos s3]
  rw [hb, hrs, if_pos rfl] at h
  have c0 := h.c0
  have c2 := h.c2
  have c3 := h.c3
  have hfz := h.frozen 0
  have hlt := h.lt
  have hnl := nums_len b
  have H := Lib.hid h
  have HL := Lib.hid hnl
  have HS1 := Lib.hid s1
  have HS3 := Lib.hid s3
  have HR := Lib.hid hrs2
  have hwr : IntKind.i64.wrap ((p.length : Int) + ((nums b).length : Int)) = (p.length : Int) + ((nums b).length : Int) := by rw [IntKind.wrap_i64]; omega
  clear h hv hsl hb hrs s1 s3 hrs2 hnl
  go_enter Tryd.func11, Tryd.ntmps11
  go_wp2_with (go_at_call 24; refine (wrong_calls _ _ _).mono ?_; rintro e w1 ⟨rfl, rfl⟩)
  go_ret
  refine ⟨_, rfl, .inr ⟨_, by decide, rfl, (heap_alloc_set _ _ _ _).trans (heap_alloc_new _ _)⟩, ?_, (kept_set (Kept.refl _ w) 0 _).alloc _⟩
  unfold ScanAt
  rw [HS3.out, HR.out, if_pos rfl, HS1.out]
  have e : ((p ++ b).length : Int) = (p.length : Int) + ((nums b).length : Int) := by rw [List.length_append, HL.out]; omega
  rw [e]
  exact (H.out.s0 _).below ((Below.refl _ _).alloc (Nat.le_refl _) _)
def FeedPost (w : World) (g : Nat) (p b : List UInt8) (x : Value) (w' : World) : Prop := EV w' x (if bdF (p ++ b) = true then (kF (p ++ b) : Int) else 0) (if bdF (p ++ b) = true then 40 else 0) ∧ ScanAt w' g (p ++ b) ∧ Kept (fun j => j = g) w w'
set_option maxRecDepth 100000 in
set_option maxHeartbeats 2000000 in
theorem feed_ok (w : World) (g : Nat) (p b : List UInt8) (v : Value) (base : Nat) (h : ScanAt w g p) (hv : Ow .u8 5 base w v (nums b)) (hvg : v.ownBlock ≠ some g) (hz : p.length + b.length ≤ 8000000) (hb : bdF p = false) :
    Calls Tryd.prog 11 #[.pointer (some ⟨g, 0, none⟩), v] w fun e w' => ∃ x, e = .returned x ∧ FeedPost w g p b x w' := by
  obtain ⟨a, c, rfl, hsl, _⟩ := hv.sl
  have hnl := nums_len b
  have hrs : rsF p = tlF p := by unfold rsF; rw [hb]; rfl
  unfold ScanAt at h
  rw [hb, hrs] at h
  simp only [Bool.false_eq_true, if_false] at h
  have htl := tl_len p
  have hle := k_le p
  have htc := tl_cut p b
  have hkc := k_cut p b
  have hbc := bd_cut (p := p) b
  obtain ⟨q, hq⟩ : ∃ q, q = tlF p ++ b := ⟨_, rfl⟩
  rw [← hq] at htc hkc hbc
  have hql : q.length = (tlF p).length + b.length := by rw [hq, List.length_append]
  obtain ⟨R, hR⟩ : ∃ R : ByteArray, R = ⟨(tlF p).toArray⟩ := ⟨_, rfl⟩
  obtain ⟨B, hB⟩ : ∃ B : ByteArray, B = ⟨b.toArray⟩ := ⟨_, rfl⟩
  have hRs : R.size = p.length - kF p := by rw [hR, ← htl]; simp [ByteArray.size]
  have hBs : B.size = b.length := by rw [hB]; simp [ByteArray.size]
  have hQd : (R ++ B).data.toList = q := by rw [cat_data', hR, hB, hq]
  have hQs : (R ++ B).size = q.length := by rw [← hQd, Lib.size_eq]
  rw [← hR] at h
  have hck := fun w => check_calls (R ++ B) w (by omega)
  rw [hQd] at hck
  obtain ⟨Q, hQ⟩ : ∃ Q, R ++ B = Q := ⟨_, rfl⟩
  rw [hQ] at hQd hQs hck
  have c0 := h.c0
  have c1 := h.c1
  have c2 := h.c2
  have hfz := h.frozen 0
  have hlt := h.lt
  have hwr : IntKind.i64.wrap ((p.length : Int) + ((nums b).length : Int)) = (p.length : Int) + ((nums b).length : Int) := by rw [IntKind.wrap_i64]; omega
  have hv1 := ow_kept hv hvg 0 (.int .i64 ((p.length : Int) + ((nums b).length : Int)))
  have h1 := h.s0 (.int .i64 ((p.length : Int) + ((nums b).length : Int)))
  have k1 := kept_set (Kept.refl _ w) (g := g) 0 (.int .i64 ((p.length : Int) + ((nums b).length : Int)))
  have HB := Lib.hid hB
  have H1 := Lib.hid h1
  have HV1 := Lib.hid hv1
  have K1 := Lib.hid k1
  have HCK := Lib.hid hck
  have HQ := Lib.hid hQ
  have HQD := Lib.hid hQd
  have HQS := Lib.hid hQs
  have HRS := Lib.hid hRs
  have HBS := Lib.hid hBs
  have HNL := Lib.hid hnl
  have HQL := Lib.hid hql
  have HTL := Lib.hid htl
  have HTC := Lib.hid htc
  have HKC := Lib.hid hkc
  have HBC := Lib.hid hbc
  clear hB h1 hv1 k1 hck hQ hQd hQs hRs hBs hnl hql htl htc hkc hbc h hv hsl hb hrs hq hR
  go_enter Tryd.func11, Tryd.ntmps11
  go_upto_region 4 with fail
  have h1 := H1.out
  have hv1 := HV1.out
  have k1 := K1.out
  clear c0 c1 c2 hfz hlt hwr H1 HV1 K1
  generalize World.setCell w ⟨g, 0, none⟩ (.int .i64 ((p.length : Int) + ((nums b).length : Int))) = w1 at h1 hv1 k1 ⊢
  have hconv : ∀ n, (convert 28 9 (.slice a (nums b).length c)).run Tryd.prog (w1.drewN n) = .ok (.string B) (w1.drewN n) := fun n => by rw [HB.out]; exact (hv1.drewN n).str Tryd.underlying28 Tryd.underlying5 Tryd.underlying9
  have c1 := h1.c1
  have hzs : R.size + B.size ≤ 8000000 := by rw [HRS.out, HBS.out]; omega
  have hQ := HQ.out
  have H1 := Lib.hid h1
  have K1 := Lib.hid k1
  clear h1 hv1 k1
  go_quiet (fail)
  have h2 := H1.out.drewN nq
  have k2 := K1.out.drewN nq
  generalize World.drewN w1 nq = w2 at h2 k2 ⊢
  have c0 := h2.c0
  have d1 := h2.c1
  have d2 := h2.c2
  have d3 := h2.c3
  have e0 : ((p.length : Int) + ((nums b).length : Int)) = ((p ++ b).length : Int) := by rw [List.length_append, HNL.out]; omega
  have hsub : (p.length : Int) + ((nums b).length : Int) - (Q.size : Int) = (kF p : Int) := by rw [HNL.out, HQS.out, HQL.out, HTL.out]; omega
  have f0 := h2.frozen 0
  have f1 := h2.frozen 1
  have f2 := h2.frozen 2
  have f3 := h2.frozen 3
  have hlt := h2.lt
  have hps : p.length + (nums b).length ≤ 8000000 := by rw [HNL.out]; omega
  have H2 := Lib.hid h2
  have K2 := Lib.hid k2
  have E0 := Lib.hid e0
  clear h2 k2 H1 K1 hconv c1 e0 hQ
  by_cases hc : chkF q 0 = -1
  · have ht := tl_nil hc
    have hck := HCK.out
    rw [hc] at hck
    have HCK2 := Lib.hid hck
    have HT := Lib.hid ht
    clear hck HCK ht hc
    go_wp2_with (go_at_call 22; (with_reducible refine (HCK2.out _).mono ?_); rintro e w3 ⟨rfl, rfl⟩)
    go_ret
    have htq : tlF (p ++ b) = [] := HTC.out.trans HT.out
    have hb2 : bdF (p ++ b) = false := by unfold bdF; rw [htq]; rfl
    unfold FeedPost
    rw [hb2]
    refine ⟨_, rfl, EV.nil _, ?_, kept_set K2.out 1 _⟩
    unfold ScanAt rsF
    rw [hb2, ← E0.out]
    simp only [Bool.false_eq_true, if_false]
    rw [htq]
    exact H2.out.s1 _
  obtain ⟨tne, _, hck0⟩ := tl_some hc
  have hck := HCK.out
  rw [hck0] at hck
  obtain ⟨k, hk⟩ : ∃ k, k = kF q := ⟨_, rfl⟩
  rw [← hk] at hck
  have hkl : k ≤ q.length := by rw [hk]; exact k_le q
  have htq := tl_len q
  have hEd : (Q.extract k Q.size).data.toList = tlF q := by
    unfold tlF
    rw [← hk, ← HQD.out]
    simp [HQS.out]
    exact List.take_of_length_le (by rw [List.length_drop, ← Lib.size_eq, HQS.out]; exact Nat.le_refl _)
  have htpos := List.length_pos_iff.2 tne
  rw [htq, ← hk] at htpos
  have hbq : bdF q = !(decide (q.length - k < 4) && bgB (tlF q)) := by unfold bdF; rw [htq, ← hk]; simp [tne]
  obtain ⟨E, hE⟩ : ∃ E, Q.extract k Q.size = E := ⟨_, rfl⟩
  rw [hE] at hEd
  have hEs : E.size = q.length - k := by rw [hk, ← htq, ← hEd, Lib.size_eq]
  have hbg := fun w => begins_calls E w (by omega) (by have := HQL.out; have := HTL.out; omega)
  rw [hEd] at hbg
  have hsl : q.length ≤ 8000000 := by have := HQL.out; have := HTL.out; omega
  have hkQ : k < Q.size := by have := HQS.out; omega
  have hQz : Q.size ≤ 8000000 := by have := HQS.out; omega
  have HCK2 := Lib.hid hck
  have HBG := Lib.hid hbg
  have HBQ := Lib.hid hbq
  have HEd := Lib.hid hEd
  have HK := Lib.hid hk
  by_cases h4 : q.length - k < 4
  · have h4' : (Q.size : Int) - (k : Int) < 4 := by have := HQS.out; omega
    have h4d := decide_eq_true h4
    have H4 := Lib.hid h4d
    by_cases hbb : bgB (tlF q) = true
    · have hbg2 := hbg
      rw [hbb] at hbg2
      have HBG2 := Lib.hid hbg2
      have HBB := Lib.hid hbb
      clear hbg2 hbb h4d h4 hck hbg hbq hEd hk HCK hc tne hck0 htq htpos hEs hkl
      go_wp2_with (first
        | (go_at_call 22; (with_reducible refine (HCK2.out _).mono ?_); rintro e w3 ⟨rfl, rfl⟩)
        | (go_at_call 25; (with_reducible refine (HBG2.out _).mono ?_); rintro e w3 ⟨rfl, hb3⟩; (have H3 := Lib.hid (H2.out.below hb3)); (have K3 := Lib.hid (kept_below K2.out hb3)); clear hb3 c0 d1 d2 d3 f0 f1 f2 f3 hlt H2 K2; (have d1 := H3.out.c1); (have d2 := H3.out.c2); (have d3 := H3.out.c3); (have f1 := H3.out.frozen 1); (have f2 := H3.out.frozen 2); (have f3 := H3.out.frozen 3); (have hlt := H3.out.lt))
        | (go_at_call 24; refine (wrong_calls _ _ _).mono ?_; rintro e w1 ⟨rfl, rfl⟩))
      go_ret
      have hb2 : bdF (p ++ b) = false := by rw [HBC.out, HBQ.out, H4.out, HBB.out]; rfl
      unfold FeedPost
      rw [hb2]
      refine ⟨_, rfl, EV.nil _, ?_, kept_set K3.out 1 _⟩
      unfold ScanAt rsF
      rw [hb2, ← E0.out]
      simp only [Bool.false_eq_true, if_false]
      have hEE : E = ⟨(tlF (p ++ b)).toArray⟩ := by rw [HTC.out, ← HEd.out]
      rw [← hEE]
      exact H3.out.s1 _
    · have hbb' : bgB (tlF q) = false := by simpa using hbb
      have hbg2 := hbg
      rw [hbb'] at hbg2
      have HBG2 := Lib.hid hbg2
      have HBB := Lib.hid hbb'
      clear hbg2 hbb hbb' h4d h4 hck hbg hbq hEd hk HCK hc tne hck0 htq htpos hEs hkl
      go_wp2_with (first
        | (go_at_call 22; (with_reducible refine (HCK2.out _).mono ?_); rintro e w3 ⟨rfl, rfl⟩)
        | (go_at_call 25; (with_reducible refine (HBG2.out _).mono ?_); rintro e w3 ⟨rfl, hb3⟩; (have H3 := Lib.hid (H2.out.below hb3)); (have K3 := Lib.hid (kept_below K2.out hb3)); clear hb3 c0 d1 d2 d3 f0 f1 f2 f3 hlt H2 K2; (have d1 := H3.out.c1); (have d2 := H3.out.c2); (have d3 := H3.out.c3); (have f1 := H3.out.frozen 1); (have f2 := H3.out.frozen 2); (have f3 := H3.out.frozen 3); (have hlt := H3.out.lt))
        | (go_at_call 24; refine (wrong_calls _ _ _).mono ?_; rintro e w1 ⟨rfl, rfl⟩))
      go_ret
      have hb2 : bdF (p ++ b) = true := by rw [HBC.out, HBQ.out, H4.out, HBB.out]; rfl
      have hk2 : kF (p ++ b) = kF p + k := by rw [HKC.out, HK.out]
      unfold FeedPost
      rw [hb2, hk2, if_pos rfl, if_pos rfl]
      refine ⟨_, rfl, .inr ⟨_, by decide, rfl, ?_⟩, ?_, (kept_set (kept_set (kept_set K3.out 2 _) 3 _) 1 _).alloc _⟩
      · rw [Int.natCast_add]
        exact heap_alloc_at _ _ _ (by rw [size_set, size_set, size_set])
      · unfold ScanAt rsF
        rw [hb2, hk2, ← E0.out, if_pos rfl, if_pos rfl, Int.natCast_add]
        exact (((H3.out.s2 _).s3 _).s1 _).below ((Below.refl _ _).alloc (Nat.le_refl _) _)
  · have h4' : ¬ (Q.size : Int) - (k : Int) < 4 := by have := HQS.out; omega
    have h4d := decide_eq_false h4
    have H4 := Lib.hid h4d
    clear hck hbg hbq hEd hk HCK hc tne hck0 htq htpos hE hEs hkl h4d h4
    go_wp2_with (first
      | (go_at_call 22; (with_reducible refine (HCK2.out _).mono ?_); rintro e w3 ⟨rfl, rfl⟩)
      | (go_at_call 24; refine (wrong_calls _ _ _).mono ?_; rintro e w1 ⟨rfl, rfl⟩))
    go_ret
    have hb2 : bdF (p ++ b) = true := by rw [HBC.out, HBQ.out, H4.out]; rfl
    have hk2 : kF (p ++ b) = kF p + k := by rw [HKC.out, HK.out]
    unfold FeedPost
    rw [hb2, hk2, if_pos rfl, if_pos rfl]
    refine ⟨_, rfl, .inr ⟨_, by decide, rfl, ?_⟩, ?_, (kept_set (kept_set (kept_set K2.out 2 _) 3 _) 1 _).alloc _⟩
    · rw [Int.natCast_add]
      exact heap_alloc_at _ _ _ (by rw [size_set, size_set, size_set])
    · unfold ScanAt rsF
      rw [hb2, hk2, ← E0.out, if_pos rfl, if_pos rfl, Int.natCast_add]
      exact (((H2.out.s2 _).s3 _).s1 _).below ((Below.refl _ _).alloc (Nat.le_refl _) _)
theorem scan_feed (w : World) (g : Nat) (p b : List UInt8) (v : Value) (base : Nat) (h : ScanAt w g p) (hv : Ow .u8 5 base w v (nums b)) (hvg : v.ownBlock ≠ some g) (hz : p.length + b.length ≤ 8000000) :
    Calls Tryd.prog 11 #[.pointer (some ⟨g, 0, none⟩), v] w fun e w' => ∃ x, e = .returned x ∧ FeedPost w g p b x w' := by
  by_cases hb : bdF p = true
  · refine (feed_bad w g p b v base h hv hz hb).mono fun e w' ⟨x, h1, h2, h3, h4⟩ => ⟨x, h1, ?_, h3, h4⟩
    obtain ⟨s1, _, s3⟩ := bd_stays hb b
    rw [s3, if_pos rfl, if_pos rfl, s1]
    exact h2
  · exact feed_ok w g p b v base h hv hvg hz (by simpa using hb)
end Go.Proofs.YthloijpnbljpeaaDoor
