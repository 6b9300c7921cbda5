/- The short forms of a target: the program's forms, the document's Forms. -/
import Derived.Test.YthdkhlkmcebfeaaIriWay
import Derived.Test.YthdkhlkmcebfeaaStrs
import Derived.Test.YthdkhlkmcebfeaaHe
set_option linter.unusedVariables false
set_option linter.unusedSimpArgs false
namespace Go.Tk
open Go Go.RowKit
/-- While the forms are gathered: two structs of parts in blocks of the call's own, and what has been gathered, from block h on. -/
structure FG (T e h g1 g2 : Nat) (w wx : World) (b t : Prts) (v : Value) (L : List (List UInt8)) : Prop where
  rb : wx.heap[g1]? = some (.cells b.cells T (0, 0))
  rt : wx.heap[g2]? = some (.cells t.cells T (0, 0))
  own : OwL e h wx v L
  below : Below w.heap.size w wx
  hb : w.heap.size ≤ h ∧ g1 < h ∧ g2 < h ∧ h ≤ wx.heap.size
theorem FG.later {T e h g1 g2 : Nat} {w wx w' : World} {b t : Prts} {v : Value} {L : List (List UInt8)} (H : FG T e h g1 g2 w wx b t v L) (hb : Below wx.heap.size wx w') : FG T e h g1 g2 w w' b t v L where
  rb := (hb.block _ (lt_of_block H.rb)).trans H.rb
  rt := (hb.block _ (lt_of_block H.rt)).trans H.rt
  own := H.own.keep hb (Nat.le_refl _)
  below := H.below.trans (hb.mono H.below.size)
  hb := ⟨H.hb.1, H.hb.2.1, H.hb.2.2.1, Nat.le_trans H.hb.2.2.2 hb.size⟩
theorem FG.drewN {T e h g1 g2 : Nat} {w wx : World} {b t : Prts} {v : Value} {L : List (List UInt8)} (H : FG T e h g1 g2 w wx b t v L) (n : Nat) : FG T e h g1 g2 w (wx.drewN n) b t v L := ⟨H.rb, H.rt, H.own, Go.Tk.below_drewN H.below n, H.hb⟩
theorem FG.alloc {T e h g1 g2 : Nat} {w wx : World} {b t : Prts} {v : Value} {L : List (List UInt8)} (H : FG T e h g1 g2 w wx b t v L) (o : Obj) : FG T e h g1 g2 w (wx.alloc o) b t v L := H.later ((Below.refl _ _).alloc (Nat.le_refl _) o)
theorem FG.app {T e h g1 g2 : Nat} {w wx w' : World} {b t : Prts} {v v' : Value} {L L' : List (List UInt8)} (H : FG T e h g1 g2 w wx b t v L) (ho : OwL e h w' v' L') (hg : wx.grownBy w' v.ownBlock) : FG T e h g1 g2 w w' b t v' L' where
  rb := (hg.block _ (lt_of_block H.rb) (fun e => by have := (H.own.lt _ e.symm).1; have := H.hb; omega)).trans H.rb
  rt := (hg.block _ (lt_of_block H.rt) (fun e => by have := (H.own.lt _ e.symm).1; have := H.hb; omega)).trans H.rt
  own := ho
  below := H.below.trans (below_of_grown hg H.below.size (fun k e => by have := (H.own.lt _ e).1; have := H.hb; omega))
  hb := ⟨H.hb.1, H.hb.2.1, H.hb.2.2.1, Nat.le_trans H.hb.2.2.2 hg.size⟩
theorem FG.S {T e h g1 g2 : Nat} {w wx : World} {b t : Prts} {v : Value} {L : List (List UInt8)} (H : FG T e h g1 g2 w wx b t v L) : wx.heap[g1]? = some (.cells b.cells T (0, 0)) ∧ wx.heap[g2]? = some (.cells t.cells T (0, 0)) := ⟨H.rb, H.rt⟩
theorem mk_self (g : ByteArray) : g = ⟨g.data.toList.toArray⟩ := by apply byte_ext; rfl
theorem newc {w : World} {e : TypeId} {x : ByteArray} {l : List UInt8} (h : x = ⟨l.toArray⟩) : (w.alloc (.cells #[.string x] e)).heap[w.heap.size]? = some (.cells ([l].map strV').toArray e (0, 0)) := by subst h; exact heap_alloc_new _ _
theorem newc2 {w : World} {e : TypeId} {x y : ByteArray} {l m : List UInt8} (h : x = ⟨l.toArray⟩) (h2 : y = ⟨m.toArray⟩) : (w.alloc (.cells #[.string x, .string y] e)).heap[w.heap.size]? = some (.cells ([l, m].map strV').toArray e (0, 0)) := by subst h; subst h2; exact heap_alloc_new _ _
theorem tail_len' (p : Prts) : p.tail.length ≤ p.qu.length + p.fr.length + 2 := tailL_len _ _ _ _
theorem mkcat (a b : List UInt8) : ((⟨a.toArray⟩ : ByteArray) ++ ⟨b.toArray⟩) = ⟨(a ++ b).toArray⟩ := ByteArray.mk_append_mk a b
theorem text_cut {l : List UInt8} (h : sch l ≠ 0) : ({ splitP l with sc := [] } : Prts).text = l.drop ((splitP l).sc.length + 1) ∧ (splitP l).sc.length + 1 ≤ l.length := by
  have h1 := text_splitP l
  have h2 := sch_le l
  have hsc : (splitP l).sc = l.take (sch l) := rfl
  have hlen : (splitP l).sc.length = sch l := by rw [hsc, List.length_take]; omega
  have hne : (splitP l).sc ≠ [] := by intro e; rw [e] at hlen; simp at hlen; omega
  generalize splitP l = p at *
  have e1 : p.text = p.sc ++ [58] ++ ({ p with sc := [] } : Prts).text := by
    unfold Prts.text joinL
    rw [if_neg hne, if_pos rfl]
    simp
  rw [e1] at h1
  constructor
  · have e2 : (p.sc ++ [58] ++ ({ p with sc := [] } : Prts).text).drop (p.sc.length + 1) = ({ p with sc := [] } : Prts).text := by
      have e3 : p.sc.length + 1 = (p.sc ++ [58]).length := by simp
      rw [e3, List.drop_left]
    rw [← e2, h1]
  · have := congrArg List.length h1
    simp at this
    omega
end Go.Tk
namespace Go.Proofs.Ythdkhlkmcebfeaa
open Go.RowKit Go.Tk
theorem Try.infoStr : (Try.prog.info? 9).map (fun i => (i.zero, i.size, i.bytes)) = some (some (.string ByteArray.empty), 1, 16) := by kernel_rfl
theorem zstr1 : (Value.string ByteArray.empty).cells.size = 1 := rfl
set_option maxHeartbeats 4000000 in
set_option maxRecDepth 100000 in
theorem forms_calls (b t : Prts) (whole : ByteArray) (w : World) (hb : b.sum ≤ 1000000) (ht : t.sum ≤ 1000000) (hw : t.sc.length + 1 ≤ whole.size) (hwz : whole.size ≤ 1000000) :
    Calls Try.prog 54 #[.agg #[.string ⟨b.sc.toArray⟩, .string ⟨b.au.toArray⟩, .string ⟨b.pa.toArray⟩, .string ⟨b.qu.toArray⟩, .string ⟨b.fr.toArray⟩, .bool b.ha, .bool b.hq, .bool b.hf], .agg #[.string ⟨t.sc.toArray⟩, .string ⟨t.au.toArray⟩, .string ⟨t.pa.toArray⟩, .string ⟨t.qu.toArray⟩, .string ⟨t.fr.toArray⟩, .bool t.ha, .bool t.hq, .bool t.hf], .string whole] w fun e w' => ∃ v, e = .returned v ∧ OwL 9 w.heap.size w' v (fms b t whole.data.toList) ∧ Below w.heap.size w w' := by
  have hst := WG.start 34 w b t
  have htail := fun w => itail_calls t.sc t.au t.pa t.qu t.fr t.ha t.hq t.hf w (by unfold Prts.sum at ht; omega)
  have hway := fun w => way_calls b t w hb ht
  have hbz : t.qu.length + t.fr.length + t.pa.length + t.sc.length ≤ 1000000 := by unfold Prts.sum at ht; omega
  have hbz2 : b.pa.length ≤ 1000000 := by unfold Prts.sum at hb; omega
  have htz := tail_len' t
  have hwaz := way_len b t
  have hfms : fms b t whole.data.toList = [[]] ++ (if t.hf then [35 :: t.fr] else []) ++ (if t.hq then [t.tail] else []) ++ [way b t ++ t.tail, t.pa ++ t.tail] ++ (if t.ha then [whole.data.toList.drop (t.sc.length + 1)] else []) := rfl
  have hi8 : (Try.prog.info? 34).map (·.size) = some 8 := by kernel_rfl
  have HI8 := Lib.hid hi8
  have HST := Lib.hid hst
  have HTAIL : Hid (∀ w, Calls Try.prog 68 #[.agg #[.string ⟨t.sc.toArray⟩, .string ⟨t.au.toArray⟩, .string ⟨t.pa.toArray⟩, .string ⟨t.qu.toArray⟩, .string ⟨t.fr.toArray⟩, .bool t.ha, .bool t.hq, .bool t.hf]] w fun e w' => e = .returned (.string ⟨t.tail.toArray⟩) ∧ Below w.heap.size w w') := Lib.hid htail
  have HWAY := Lib.hid hway
  have HFMS := Lib.hid hfms
  clear hst htail hway hfms hb ht hi8
  go_enter Try.func54, Try.ntmps54
  go_upto_region 2 with fail
  generalize hwx : World.alloc _ (.cells #[.string _] 9) = wx
  have hf0 : FG 34 9 (w.heap.size + 2) w.heap.size (w.heap.size + 1) w wx b t (.slice (some ⟨w.heap.size + 1 + 1, 0, none⟩) 1 1) [[]] := by
    rw [← hwx]
    have hS := HST.out
    have hsz : ((w.alloc (.cells b.cells 34)).alloc (.cells t.cells 34)).heap.size = w.heap.size + 2 := by simp
    have ho := OwL.new (e := 9) (base := w.heap.size + 2) (w := (w.alloc (.cells b.cells 34)).alloc (.cells t.cells 34)) [[]] (by omega) (by simp)
    rw [hsz] at ho
    exact ⟨(Below.heap_alloc _ _ _ (lt_of_block hS.rb)).trans hS.rb, (Below.heap_alloc _ _ _ (lt_of_block hS.rt)).trans hS.rt, ho, hS.below.alloc hS.below.size _, by omega, by omega, by omega, by simp⟩
  clear hwx HST
  obtain ⟨v0, hv0⟩ : ∃ v0 : Value, v0 = .slice (some ⟨w.heap.size + 1 + 1, 0, none⟩) 1 1 := ⟨_, rfl⟩
  rw [← hv0] at hf0 ⊢
  clear hv0
  obtain ⟨xf, hxf⟩ : ∃ xf, xf = t.hf := ⟨_, rfl⟩
  obtain ⟨xq, hxq⟩ : ∃ xq, xq = t.hq := ⟨_, rfl⟩
  obtain ⟨xa, hxa⟩ : ∃ xa, xa = t.ha := ⟨_, rfl⟩
  have hfm := HFMS.out
  rw [← hxf, ← hxq, ← hxa] at hfm
  have HFM := Lib.hid hfm
  have HXF := Lib.hid hxf
  have HXQ := Lib.hid hxq
  have HXA := Lib.hid hxa
  clear HFMS hfm hxf hxq hxa
  have c7 := (row8' hf0.rt).2.2.2.2.2.2.2
  have c4 := (row8' hf0.rt).2.2.2.2.1
  rw [← HXF.out] at c7
  have HF0 := Lib.hid hf0
  have hbs := hf0.hb.2.2.2
  clear hf0
  go_upto_if 10 with fail
  go_cut [7] (fun v wx => FG 34 9 (w.heap.size + 2) w.heap.size (w.heap.size + 1) w wx b t v ([[]] ++ if xf then [35 :: t.fr] else []))
  case first =>
    cases xf with
    | false =>
      go_wp2_with fail
      go_meet
      exact HF0.out
    | true =>
      go_wp2_with (at_builtin; go_loud (refine wpList_appL rfl _ _ 24 rfl (w.heap.size + 2) 9 (.string ByteArray.empty) Try.underlying24 Try.infoStr zstr1 _ [[]] rfl (HF0.out.own.alloc _) wx.heap.size 1 1 [35 :: t.fr] rfl rfl (0, 0) (newc (mkcat [35] t.fr)) (by simp) (by simp; omega) ?_; intro v' w1 ho hg _; (have HF1 := Lib.hid ((HF0.out.alloc _).app ho hg)); clear ho hg))
      go_meet
      exact HF1.out
  case rest =>
  rename World => w1
  have hf1 := hcut
  clear hcut c7 c4 hbs
  obtain ⟨L1, hL1⟩ : ∃ L1, L1 = ([[]] ++ if xf then [35 :: t.fr] else [] : List (List UInt8)) := ⟨_, rfl⟩
  rw [← hL1] at hf1
  have hl1 : L1.length ≤ 2 := by rw [hL1]; cases xf <;> simp
  have HL1 := Lib.hid hL1
  have c6 := (row8' hf1.rt).2.2.2.2.2.2.1
  rw [← HXQ.out] at c6
  have HF1 := Lib.hid hf1
  have hbs := hf1.hb.2.2.2
  clear hL1 hf1
  go_upto_if 18 with fail
  go_cut [7] (fun v wx => FG 34 9 (w.heap.size + 2) w.heap.size (w.heap.size + 1) w wx b t v (L1 ++ if xq then [t.tail] else []))
  case first =>
    cases xq with
    | false =>
      go_wp2_with fail
      go_meet
      rw [show L1 ++ (if false = true then [t.tail] else []) = L1 by simp]
      exact HF1.out
    | true =>
      go_wp2_with (first
        | (refine wpList_load_row rfl 34 _ rfl (w.heap.size + 1) rfl _ t.cells _ _ HF1.out.rt Try.underlying34 rfl HI8.out ?_)
        | (go_at_call 68; refine (HTAIL.out _).mono ?_; rintro e w2 ⟨rfl, hb2⟩; (have HF2 := Lib.hid (HF1.out.later hb2)); (have hs2 := hb2.size); clear hb2)
        | (at_builtin; refine wpList_appL rfl _ _ 24 rfl (w.heap.size + 2) 9 (.string ByteArray.empty) Try.underlying24 Try.infoStr zstr1 _ L1 rfl (HF2.out.own.alloc _) w2.heap.size 1 1 [t.tail] rfl rfl (0, 0) (newc rfl) (by simp; omega) (by simp; omega) ?_; intro v' w3 ho hg _; (have HF3 := Lib.hid ((HF2.out.alloc _).app ho hg)); clear ho hg))
      go_meet
      exact HF3.out
  case rest =>
  rename World => w4
  have hf4 := hcut
  clear hcut c6 hbs
  obtain ⟨L2, hL2⟩ : ∃ L2, L2 = (L1 ++ if xq then [t.tail] else [] : List (List UInt8)) := ⟨_, rfl⟩
  rw [← hL2] at hf4
  have hl2 : L2.length ≤ 3 := by rw [hL2]; cases xq <;> simp <;> omega
  have HL2 := Lib.hid hL2
  have HF4 := Lib.hid hf4
  have hbs := hf4.hb.2.2.2
  obtain ⟨tl, htl⟩ : ∃ tl, tl = t.tail := ⟨_, rfl⟩
  obtain ⟨wy, hwy⟩ : ∃ wy, wy = way b t := ⟨_, rfl⟩
  have htail2 := HTAIL.out
  have hway2 := HWAY.out
  rw [← htl] at htail2 htz
  rw [← hwy] at hway2 hwaz
  have HTL2 := Lib.hid htail2
  have HWY2 := Lib.hid hway2
  have HTL := Lib.hid htl
  have HWY := Lib.hid hwy
  have b1 : (wy.length : Int) ≤ 8388608 := by omega
  have b2 : (tl.length : Int) ≤ 8388608 := by omega
  have b3 : (t.pa.length : Int) ≤ 8388608 := by omega
  have B1 := Lib.hid b1
  have B2 := Lib.hid b2
  have B3 := Lib.hid b3
  have hl2' : L2.length + 2 ≤ 8796093022208 := by omega
  clear hL2 hf4 htail2 hway2 htl hwy b1 b2 b3 hl1
  go_upto_region 6 with fail
  refine wh_start (S := fun w' => w'.heap[w.heap.size]? = some (.cells b.cells 34 (0, 0)) ∧ w'.heap[w.heap.size + 1]? = some (.cells t.cells 34 (0, 0))) 15 rfl (by kernel_rfl) ?_
  have HF5 := Lib.hid (HF4.out.drewN 1)
  refine wh_take 0 u7 rfl rfl (by kernel_rfl) (by kernel_rfl) (by kernel_rfl) (fun _ _ _ h => h) HF5.out.S (fun w' h => by simp [go_sem]) ?_
  refine wh_take 1 (.agg b.cells) rfl rfl (by kernel_rfl) (by kernel_rfl) (by kernel_rfl) (fun _ _ _ h => h) HF5.out.S (fun w' h => run_load_row 34 _ rfl w.heap.size (by simp [go_sem]) _ b.cells _ _ w' h.1 Try.underlying34 rfl HI8.out) ?_
  refine wh_take 2 (.agg t.cells) rfl rfl (by kernel_rfl) (by kernel_rfl) (by kernel_rfl) (fun _ _ _ h => h) HF5.out.S (fun w' h => run_load_row 34 _ rfl (w.heap.size + 1) (by simp [go_sem]) _ t.cells _ _ w' h.2 Try.underlying34 rfl HI8.out) ?_
  refine wh_take 4 (.agg t.cells) rfl rfl (by kernel_rfl) (by kernel_rfl) (by kernel_rfl) (fun _ _ _ h => h) HF5.out.S (fun w' h => run_load_row 34 _ rfl (w.heap.size + 1) (by simp [go_sem]) _ t.cells _ _ w' h.2 Try.underlying34 rfl HI8.out) ?_
  refine wh_take 7 (.pointer (some ⟨w.heap.size + 1, 2, none⟩)) rfl rfl (by kernel_rfl) (by kernel_rfl) (by kernel_rfl) (fun _ _ _ h => h) HF5.out.S (fun w' h => by simp [go_sem]) ?_
  refine wh_take 8 (.string ⟨t.pa.toArray⟩) rfl rfl (by kernel_rfl) (by kernel_rfl) (by kernel_rfl) (fun _ _ _ h => h) HF5.out.S (fun w' h => by have := (row8' h.2).2.2.1; simp [go_sem, this]) ?_
  refine wh_take 9 (.agg t.cells) rfl rfl (by kernel_rfl) (by kernel_rfl) (by kernel_rfl) (fun _ _ _ h => h) HF5.out.S (fun w' h => run_load_row 34 _ rfl (w.heap.size + 1) (by simp [go_sem]) _ t.cells _ _ w' h.2 Try.underlying34 rfl HI8.out) ?_
  refine wh_call 3 (.string ⟨wy.toArray⟩) (fun w' => FG 34 9 (w.heap.size + 2) w.heap.size (w.heap.size + 1) w w' b t u7 L2) rfl rfl (by kernel_rfl) (by simp [go_sem]; exact ⟨rfl, rfl⟩) ((HWY2.out _).mono fun _ _ ⟨h1, h2⟩ => ⟨h1, HF5.out.later h2⟩) (fun _ h => h.S) ?_
  intro w6 hf6
  have HF6 := Lib.hid hf6
  clear hf6
  refine wh_call 5 (.string ⟨tl.toArray⟩) (fun w' => FG 34 9 (w.heap.size + 2) w.heap.size (w.heap.size + 1) w w' b t u7 L2) rfl rfl (by kernel_rfl) (by simp [go_sem]; rfl) ((HTL2.out _).mono fun _ _ ⟨h1, h2⟩ => ⟨h1, HF6.out.later h2⟩) (fun _ h => h.S) ?_
  intro w7 hf7
  have HF7 := Lib.hid hf7
  clear hf7
  refine wh_take 6 (.string ⟨(wy ++ tl).toArray⟩) rfl rfl (by kernel_rfl) (by kernel_rfl) (by kernel_rfl) (fun _ _ _ h => h) HF7.out.S (fun w' h => by have := run_string_add_lists (P := Try.prog) w' wy tl B1.out B2.out; simp [go_sem, this]) ?_
  refine wh_call 10 (.string ⟨tl.toArray⟩) (fun w' => FG 34 9 (w.heap.size + 2) w.heap.size (w.heap.size + 1) w w' b t u7 L2) rfl rfl (by kernel_rfl) (by simp [go_sem]; rfl) ((HTL2.out _).mono fun _ _ ⟨h1, h2⟩ => ⟨h1, HF7.out.later h2⟩) (fun _ h => h.S) ?_
  intro w8 hf8
  have HF8 := Lib.hid hf8
  clear hf8
  refine wh_take 11 (.string ⟨(t.pa ++ tl).toArray⟩) rfl rfl (by kernel_rfl) (by kernel_rfl) (by kernel_rfl) (fun _ _ _ h => h) HF8.out.S (fun w' h => by have := run_string_add_lists (P := Try.prog) w' t.pa tl B3.out B2.out; simp [go_sem, this]) ?_
  refine wh_step 12 (.slice (some ⟨w8.heap.size, 0, none⟩) 2 2) (w' := w8.alloc (.cells #[.string ⟨(wy ++ tl).toArray⟩, .string ⟨(t.pa ++ tl).toArray⟩] 9)) rfl rfl (by kernel_rfl) (by simp [go_sem]) (HF8.out.alloc _).S ?_
  refine wh_ex 13 (fun v' w' => OwL 9 (w.heap.size + 2) w' v' (L2 ++ [wy ++ tl, t.pa ++ tl]) ∧ (w8.alloc (.cells #[.string ⟨(wy ++ tl).toArray⟩, .string ⟨(t.pa ++ tl).toArray⟩] 9)).grownBy w' u7.ownBlock) rfl rfl (by kernel_rfl)
    (run_appL (.tmp 24) (.tmp 36) 24 rfl (w.heap.size + 2) 9 (.string ByteArray.empty) Try.underlying24 Try.infoStr zstr1 u7 L2 (by simp [go_sem]) (HF8.out.own.alloc _) w8.heap.size 2 2 [wy ++ tl, t.pa ++ tl] (by simp [go_sem]) rfl (0, 0) (newc2 rfl rfl) hl2' (by have := HF8.out.hb.2.2.2; simp; omega))
    (fun v' w' h => ((HF8.out.alloc _).app h.1 h.2).S) ?_
  rintro v9 w9 ⟨ho, hg⟩
  have hf9 := ((HF8.out.alloc _).app ho hg)
  refine wh_step 14 v9 (w' := w9) rfl rfl (by kernel_rfl) (by simp [go_sem]) hf9.S ?_
  refine wpAnyH_done (by kernel_rfl) ?_ 0
  have c5 := (row8' hf9.rt).2.2.2.2.2.1
  have c0 := (row8' hf9.rt).1
  have hb9 := hf9.hb.2.2.2
  rw [← HXA.out] at c5
  have HF9 := Lib.hid hf9
  obtain ⟨L3, hL3⟩ : ∃ L3, L3 = L2 ++ [wy ++ tl, t.pa ++ tl] := ⟨_, rfl⟩
  have hl3 : L3.length ≤ 5 := by rw [hL3]; simp; omega
  have hfin : fms b t whole.data.toList = L3 ++ (if xa then [whole.data.toList.drop (t.sc.length + 1)] else []) := by rw [HFM.out, hL3, HL2.out, HL1.out, HTL.out, HWY.out]
  rw [← hL3] at hf9
  have HF10 := Lib.hid hf9
  have HFIN := Lib.hid hfin
  clear ho hg hf9 hL3 hfin HF9 hbs hl2 hl2'
  cases xa with
  | false =>
    go_upto_region 9 with fail
    go_wp2_with fail
    go_ret
    exact ⟨_, rfl, by rw [HFIN.out]; simpa using HF10.out.own.mono (by omega), HF10.out.below⟩
  | true =>
    have hex := extract_drop whole (t.sc.length + 1)
    have HEX := Lib.hid hex
    clear hex
    go_wp2_with (at_builtin; go_loud (refine wpList_appL rfl _ _ 24 rfl (w.heap.size + 2) 9 (.string ByteArray.empty) Try.underlying24 Try.infoStr zstr1 _ L3 rfl (HF10.out.own.alloc _) w9.heap.size 1 1 [whole.data.toList.drop (t.sc.length + 1)] rfl rfl (0, 0) (newc HEX.out) (by simp; omega) (by simp; omega) ?_; intro v' w10 ho hg _; (have HF11 := Lib.hid ((HF10.out.alloc _).app ho hg)); clear ho hg))
    go_ret
    exact ⟨_, rfl, by rw [HFIN.out]; simpa using HF11.out.own.mono (by omega), HF11.out.below⟩
end Go.Proofs.Ythdkhlkmcebfeaa
