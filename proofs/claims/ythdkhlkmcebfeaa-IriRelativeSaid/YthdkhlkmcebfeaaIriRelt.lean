/- Relative: the program's, the document's. -/
import Derived.Test.YthdkhlkmcebfeaaIriFormsR
set_option linter.unusedVariables false
set_option linter.unusedSimpArgs false
namespace Go.Tk
open Go Go.RowKit
theorem OwL.at {e : TypeId} {base : Nat} {w : World} {g n c : Nat} {L : List (List UInt8)} (h : OwL e base w (.slice (some ⟨g, 0, none⟩) n c) L) (i : Nat) (hi : i < L.length) : w.cell? ⟨g, i, none⟩ = some (.string ⟨L[i].toArray⟩) := by
  obtain ⟨a, c', hv, _, _, hc⟩ := h.sl
  obtain ⟨g', hg, hcell⟩ := hc i hi
  simp only [Value.slice.injEq] at hv
  obtain ⟨rfl, _, _⟩ := hv
  cases hg
  exact hcell
theorem OwL.shape {e : TypeId} {base : Nat} {w : World} {v : Value} {L : List (List UInt8)} (h : OwL e base w v L) (hL : 0 < L.length) : ∃ g c, v = .slice (some ⟨g, 0, none⟩) L.length c ∧ L.length ≤ c ∧ c ≤ 9223372036854775807 := by
  obtain ⟨a, c, rfl, h1, h2, hc⟩ := h.sl
  obtain ⟨g, rfl, _⟩ := hc 0 hL
  exact ⟨g, c, rfl, h1, h2⟩
theorem fms_len (b t : Prts) (whole : List UInt8) (hb : b.sum ≤ 400000) (ht : t.sum ≤ 400000) (hw : whole.length ≤ 400000) : ∀ f ∈ fms b t whole ++ [whole], f.length ≤ 4000000 := by
  have h1 := way_len b t
  have h2 : t.tail.length ≤ t.qu.length + t.fr.length + 2 := tailL_len _ _ _ _
  unfold Prts.sum at hb ht
  intro f hf
  unfold fms at hf
  simp only [List.mem_append, List.mem_cons, List.not_mem_nil, or_false] at hf
  rcases hf with ((((rfl | hf) | hf) | rfl | rfl) | hf) | rfl
  · simp
  · split at hf
    · simp at hf; subst hf; simp; omega
    · simp at hf
  · split at hf
    · simp at hf; subst hf; omega
    · simp at hf
  · rw [List.length_append]; omega
  · rw [List.length_append]; omega
  · split at hf
    · simp at hf; subst hf; simp; omega
    · simp at hf
  · omega
theorem fms_pos (b t : Prts) (whole : List UInt8) : 0 < (fms b t whole ++ [whole]).length ∧ (fms b t whole ++ [whole]).length ≤ 10 := by
  unfold fms
  simp only [List.length_append, List.length_cons, List.length_nil]
  have h1 : (if t.hf = true then [35 :: t.fr] else []).length ≤ 1 := by split <;> simp
  have h2 : (if t.hq = true then [t.tail] else []).length ≤ 1 := by split <;> simp
  have h3 : (if t.ha = true then [whole.drop (t.sc.length + 1)] else []).length ≤ 1 := by split <;> simp
  omega
theorem relS_yes {base goal f : List UInt8} {st : List UInt8 × Bool} (h1 : (resE base f).2 = 0) (h2 : (resE base f).1 = goal) (h3 : (!st.2 || decide (f.length < st.1.length)) = true) : relS base goal st f = (f, true) := by
  unfold relS; rw [if_pos (by rw [decide_eq_true h1, decide_eq_true h2, h3]; rfl)]
theorem relS_no1 {base goal f : List UInt8} {st : List UInt8 × Bool} (h1 : (resE base f).2 ≠ 0) : relS base goal st f = st := by
  unfold relS; rw [if_neg (by rw [decide_eq_false h1]; simp)]
theorem relS_no2 {base goal f : List UInt8} {st : List UInt8 × Bool} (h2 : (resE base f).1 ≠ goal) : relS base goal st f = st := by
  unfold relS; rw [if_neg (by rw [decide_eq_false h2]; simp)]
theorem relS_no3 {base goal f : List UInt8} {st : List UInt8 × Bool} (h3 : (!st.2 || decide (f.length < st.1.length)) = false) : relS base goal st f = st := by
  unfold relS; rw [if_neg (by rw [h3]; simp)]
theorem grownBy_alloc_of {a b : World} {o : Obj} {row : Option Nat} (h : (a.alloc o).grownBy b row) : a.grownBy b row :=
  ⟨h.os, h.tape, h.output, by have := h.size; simp at this; omega, fun i hi hr => (h.block i (by simp; omega) hr).trans (Below.heap_alloc _ _ _ hi)⟩
theorem irE_sch {l : List UInt8} (h : irE l = 0) : sch l ≠ 0 := by
  intro e
  unfold irE at h
  by_cases hr : refE l = 0
  · rw [if_pos hr, if_pos e] at h; simp at h
  · rw [if_neg hr] at h; exact hr h
end Go.Tk
namespace Go.Proofs.Ythdkhlkmcebfeaa
open Go.RowKit Go.Tk
set_option maxHeartbeats 2000000 in
set_option maxRecDepth 100000 in
theorem relative_calls (s g : ByteArray) (w : World) (hs : s.size ≤ 9223372036854770000) (hg : g.size ≤ 9223372036854770000) :
    Calls Try.prog 28 #[.string s, .string g] w fun e w' => e = .returned (.tuple #[.string ⟨(relE s.data.toList g.data.toList).1.toArray⟩, .int .i64 (relE s.data.toList g.data.toList).2]) ∧ Below w.heap.size w w' := by
  have hck := fun w => icheck_calls s w hs
  have hdk := fun w => icheck_calls g w hg
  have hz1 : irE s.data.toList = 0 → s.size ≤ 65536 := fun h => by rw [Lib.size_eq]; exact irE_size h
  have hz2 : irE g.data.toList = 0 → g.size ≤ 65536 ∧ sch g.data.toList ≠ 0 := fun h => ⟨by rw [Lib.size_eq]; exact irE_size h, irE_sch h⟩
  have hE : relE s.data.toList g.data.toList = if irE s.data.toList ≠ 0 then ([], irE s.data.toList) else if irE g.data.toList ≠ 0 then ([], irE g.data.toList) else ((relF s.data.toList g.data.toList (fms (splitP s.data.toList) (splitP g.data.toList) g.data.toList ++ [g.data.toList])).1, 0) := rfl
  have hs1 := splitP_sum s.data.toList
  have hs2 := splitP_sum g.data.toList
  rw [← Lib.size_eq] at hs1 hs2
  obtain ⟨c, hc⟩ : ∃ c, c = irE s.data.toList := ⟨_, rfl⟩
  obtain ⟨d, hd⟩ : ∃ d, d = irE g.data.toList := ⟨_, rfl⟩
  obtain ⟨rs, hr⟩ : ∃ rs, rs = relE s.data.toList g.data.toList := ⟨_, rfl⟩
  rw [← hr] at hE ⊢
  rw [← hc] at hck hz1 hE
  rw [← hd] at hdk hz2 hE
  have HCK := Lib.hid hck
  have HDK := Lib.hid hdk
  have HE := Lib.hid hE
  have HZ1 := Lib.hid hz1
  have HZ2 := Lib.hid hz2
  clear hck hdk hE hz1 hz2 hc hd hr
  by_cases h1 : c = 0
  · have z1 := HZ1.out h1
    by_cases h2 : d = 0
    · obtain ⟨z2, hsc⟩ := HZ2.out h2
      have hbs1 : (splitP s.data.toList).sum ≤ 400000 := by omega
      have hbs2 : (splitP g.data.toList).sum ≤ 400000 := by omega
      have hgl : g.data.toList.length ≤ 400000 := by rw [← Lib.size_eq]; omega
      have hfl := fms_len _ _ _ hbs1 hbs2 hgl
      have hfp := fms_pos (splitP s.data.toList) (splitP g.data.toList) g.data.toList
      have hcut := text_cut hsc
      have hsp1 : ∀ w, Calls Try.prog 48 #[.string s] w fun e w' => e = .returned (.agg #[.string ⟨(splitP s.data.toList).sc.toArray⟩, .string ⟨(splitP s.data.toList).au.toArray⟩, .string ⟨(splitP s.data.toList).pa.toArray⟩, .string ⟨(splitP s.data.toList).qu.toArray⟩, .string ⟨(splitP s.data.toList).fr.toArray⟩, .bool (splitP s.data.toList).ha, .bool (splitP s.data.toList).hq, .bool (splitP s.data.toList).hf]) ∧ Below w.heap.size w w' := fun w => split_calls s w (by omega)
      have hsp2 : ∀ w, Calls Try.prog 48 #[.string g] w fun e w' => e = .returned (.agg #[.string ⟨(splitP g.data.toList).sc.toArray⟩, .string ⟨(splitP g.data.toList).au.toArray⟩, .string ⟨(splitP g.data.toList).pa.toArray⟩, .string ⟨(splitP g.data.toList).qu.toArray⟩, .string ⟨(splitP g.data.toList).fr.toArray⟩, .bool (splitP g.data.toList).ha, .bool (splitP g.data.toList).hq, .bool (splitP g.data.toList).hf]) ∧ Below w.heap.size w w' := fun w => split_calls g w (by omega)
      have hfm := fun w => forms_calls (splitP s.data.toList) (splitP g.data.toList) g w (by omega) (by omega) (by rw [Lib.size_eq]; exact hcut.2) (by omega)
      have hrs : ∀ (f : List UInt8) (w : World), f.length ≤ 4000000 → Calls Try.prog 26 #[.string s, .string ⟨f.toArray⟩] w fun e w' => e = .returned (.tuple #[.string ⟨(resE s.data.toList f).1.toArray⟩, .int .i64 (resE s.data.toList f).2]) ∧ Below w.heap.size w w' := fun f w hf => resolve_calls s ⟨f.toArray⟩ w (by omega) (by rw [Lib.size_eq]; show f.length ≤ _; omega)
      obtain ⟨p, hp⟩ : ∃ p, p = splitP s.data.toList := ⟨_, rfl⟩
      obtain ⟨q, hq⟩ : ∃ q, q = splitP g.data.toList := ⟨_, rfl⟩
      rw [← hp] at hfl hfp hfm HE
      rw [← hq] at hfl hfp hfm HE
      rw [← hp] at hsp1
      rw [← hq] at hsp2
      have HSP1 := Lib.hid hsp1
      have HSP2 := Lib.hid hsp2
      clear hsp1 hsp2
      obtain ⟨F0, hF0⟩ : ∃ F0, F0 = fms p q g.data.toList := ⟨_, rfl⟩
      rw [← hF0] at hfl hfp hfm HE
      obtain ⟨L, hL⟩ : ∃ L, L = F0 ++ [g.data.toList] := ⟨_, rfl⟩
      rw [← hL] at hfl hfp HE
      obtain ⟨gl, hgl0⟩ : ∃ gl, gl = g.data.toList := ⟨_, rfl⟩
      obtain ⟨sl, hsl0⟩ : ∃ sl, sl = s.data.toList := ⟨_, rfl⟩
      rw [← hsl0] at hrs HE
      have hE2 : rs = ((L.foldl (relS sl gl) (gl, false)).1, 0) := by rw [HE.out, if_neg (by simp [h1]), if_neg (by simp [h2]), hgl0]; rfl
      obtain ⟨FIN, hFIN⟩ : ∃ FIN, FIN = L.foldl (relS sl gl) (gl, false) := ⟨_, rfl⟩
      rw [← hFIN] at hE2
      have e1 : (c != 0) = false := by simp [h1]
      have e2 : (d != 0) = false := by simp [h2]
      obtain ⟨hfp0, hfp1⟩ := hfp
      have hgb : g = ⟨gl.toArray⟩ := by rw [hgl0]
      have HRS := Lib.hid hrs
      have HFM := Lib.hid hfm
      have HE2 := Lib.hid hE2
      have HFIN := Lib.hid hFIN
      have HFL := Lib.hid hfl
      have HGL := Lib.hid hgl0
      have HGB := Lib.hid hgb
      have HL := Lib.hid hL
      clear hrs hfm hE2 hFIN hfl hgl0 hsl0 hp hq hL hF0 hs1 hs2 hbs1 hbs2 hgl h1 h2 hsc hcut hgb HE
      go_enter Try.func28, Try.ntmps28
      go_wp2_with fail
      refine (HCK.out _).mono ?_
      rintro e w1 ⟨rfl, hb1⟩
      have b1 := Lib.hid hb1
      clear hb1
      go_wp2_with fail
      refine (HDK.out _).mono ?_
      rintro e w2 ⟨rfl, hb2⟩
      have b2 := Lib.hid (b1.out.trans (hb2.mono b1.out.size))
      clear hb2
      go_wp2_with fail
      refine (HSP1.out _).mono ?_
      rintro e w3 ⟨rfl, hb3⟩
      have b3 := Lib.hid (b2.out.trans (hb3.mono b2.out.size))
      clear hb3
      go_wp2_with fail
      refine (HSP2.out _).mono ?_
      rintro e w3b ⟨rfl, hb3⟩
      have b3b := Lib.hid (b3.out.trans (hb3.mono b3.out.size))
      clear hb3
      go_wp2_with fail
      refine (HFM.out _).mono ?_
      rintro e w3c ⟨v, rfl, ho3, hb3⟩
      have b3c := Lib.hid (b3b.out.trans (hb3.mono b3b.out.size))
      have hz3 := b3c.out.size
      have HO3 := Lib.hid (ho3.mono (base' := w.heap.size) b3b.out.size)
      clear hb3 ho3
      have hl9 : F0.length + 1 ≤ 8796093022208 := by have := congrArg List.length HL.out; simp at this; omega
      go_wp2_with (at_builtin; go_loud (refine wpList_appL rfl _ _ 24 rfl w.heap.size 9 (.string ByteArray.empty) Try.underlying24 Try.infoStr zstr1 _ F0 rfl (HO3.out.alloc _) w3c.heap.size 1 1 [g.data.toList] rfl rfl (0, 0) (newc (mk_self g)) hl9 (by simp; omega) ?_; intro v' w4 ho hg _; (have HOW := Lib.hid (by rw [HL.out]; exact ho : OwL 9 w.heap.size w4 v' L)); (have b4 := Lib.hid (b3c.out.trans (below_of_grown (grownBy_alloc_of hg) hz3 (fun x e => (HO3.out.lt x e).1)))); clear ho hg; obtain ⟨gb, cc, rfl, hcc1, hcc2⟩ := HOW.out.shape hfp0))
      obtain ⟨n, hn⟩ : ∃ n, n = L.length := ⟨_, rfl⟩
      have how2 := HOW.out
      rw [← hn] at how2 hfp0 hfp1 hcc1 ⊢
      have HOW2 := Lib.hid how2
      have HN := Lib.hid hn
      have HGBS := Lib.hid (show (⟨gl.toArray⟩ : ByteArray) = g from HGB.out.symm)
      clear how2 hn HOW
      go_loopw [8, 9, 35] (fun bv fv iv wr => ∃ (k : Nat) (st : List UInt8 × Bool), iv = .int .i64 (k : Nat) ∧ k ≤ n ∧ bv = .string ⟨st.1.toArray⟩ ∧ fv = .bool st.2 ∧ (L.drop k).foldl (relS sl gl) st = FIN ∧ OwL 9 w.heap.size wr (.slice (some ⟨gb, 0, none⟩) n cc) L ∧ Below w.heap.size w wr) (fun bv fv iv _ => n - (intOf iv).toNat)
      case atStart => exact ⟨0, (gl, false), rfl, Nat.zero_le _, by rw [HGBS.out], rfl, by rw [HFIN.out]; rfl, HOW2.out, b4.out⟩
      case round =>
        obtain ⟨k, ⟨st1, st2⟩, rfl, hk, rfl, rfl, hfold, how, hbel⟩ := hrel
        have hwsz := hbel.size
        by_cases hlt : k < n
        · have hkl : k < L.length := by rw [← HN.out]; exact hlt
          have hcell := how.at k hkl
          have hfb := HFL.out L[k] (List.getElem_mem hkl)
          rw [List.drop_eq_getElem_cons hkl, List.foldl_cons] at hfold
          obtain ⟨f, hf⟩ : ∃ f, f = L[k] := ⟨_, rfl⟩
          rw [← hf] at hcell hfb hfold
          have hcall := fun w => HRS.out f w hfb
          obtain ⟨x, hx⟩ : ∃ x, x = resE sl f := ⟨_, rfl⟩
          rw [← hx] at hcall
          obtain ⟨x1, x2⟩ := x
          obtain ⟨fB, hfB⟩ : ∃ fB : ByteArray, fB = ⟨f.toArray⟩ := ⟨_, rfl⟩
          obtain ⟨bB, hbB⟩ : ∃ bB : ByteArray, bB = ⟨st1.toArray⟩ := ⟨_, rfl⟩
          obtain ⟨xB, hxB⟩ : ∃ xB : ByteArray, xB = ⟨x1.toArray⟩ := ⟨_, rfl⟩
          have hfz : fB.size = f.length := by rw [hfB, Lib.size_eq]
          have hbz : bB.size = st1.length := by rw [hbB, Lib.size_eq]
          have hxe : (xB.toList == g.toList) = decide (x1 = gl) := by
            rw [Lib.toList_data, Lib.toList_data, hxB, ← HGL.out]
            by_cases h : x1 = gl
            · simp [h]
            · simp [h]
          rw [← hfB] at hcall hcell
          rw [← hxB] at hcall
          rw [← hbB]
          have hx1 : (resE sl f).1 = x1 := by rw [← hx]
          have hx2 : (resE sl f).2 = x2 := by rw [← hx]
          have HCALL := Lib.hid hcall
          have HX1 := Lib.hid hx1
          have HX2 := Lib.hid hx2
          have HFOLD := Lib.hid hfold
          have HOWR := Lib.hid how
          have HBEL := Lib.hid hbel
          have HFB := Lib.hid hfB
          have HBB := Lib.hid hbB
          have HXE := Lib.hid hxe
          have HFZ := Lib.hid hfz
          have HBZ := Lib.hid hbz
          clear hcall hx hx1 hx2 hfold how hbel hfB hbB hxB hfz hbz hxe hf hfb
          have later : ∀ w5 : World, Below wr.heap.size wr w5 → OwL 9 w.heap.size w5 (.slice (some ⟨gb, 0, none⟩) n cc) L ∧ Below w.heap.size w w5 := fun w5 hb => ⟨HOWR.out.keep hb (Nat.le_refl _), HBEL.out.trans (hb.mono HBEL.out.size)⟩
          have LATER := Lib.hid later
          clear later
          by_cases g1 : x2 = 0
          · have i1 : ((x2 : Int) == 0) = true := by simp [g1]
            by_cases g2 : x1 = gl
            · have i2 : (xB.toList == g.toList) = true := by rw [HXE.out]; exact decide_eq_true g2
              cases st2 with
              | false =>
                have hst : relS sl gl (st1, false) f = (f, true) := relS_yes (by rw [HX2.out]; exact g1) (by rw [HX1.out]; exact g2) rfl
                have HS := Lib.hid (by rw [← HFOLD.out, hst] : (L.drop (k + 1)).foldl (relS sl gl) (f, true) = FIN)
                clear g1 g2 hst
                go_wp2_with (go_at_call 26; refine (HCALL.out _).mono ?_; rintro e w5 ⟨rfl, hb5⟩; (have HB5 := Lib.hid hb5); clear hb5)
                go_roundw
                case rel => exact ⟨k + 1, (f, true), by go_num, by omega, by rw [HFB.out], rfl, HS.out, (LATER.out _ HB5.out).1, (LATER.out _ HB5.out).2⟩
                case measure => simp [intOf]; omega
              | true =>
                by_cases g3 : fB.size < bB.size
                · have i3 : decide (fB.size < bB.size) = true := decide_eq_true g3
                  have hst : relS sl gl (st1, true) f = (f, true) := relS_yes (by rw [HX2.out]; exact g1) (by rw [HX1.out]; exact g2) (by simp only [Bool.not_true, Bool.false_or]; rw [← HFZ.out, ← HBZ.out]; exact i3)
                  have HS := Lib.hid (by rw [← HFOLD.out, hst] : (L.drop (k + 1)).foldl (relS sl gl) (f, true) = FIN)
                  clear g1 g2 hst
                  go_wp2_with (go_at_call 26; refine (HCALL.out _).mono ?_; rintro e w5 ⟨rfl, hb5⟩; (have HB5 := Lib.hid hb5); clear hb5)
                  go_roundw
                  case rel => exact ⟨k + 1, (f, true), by go_num, by omega, by rw [HFB.out], rfl, HS.out, (LATER.out _ HB5.out).1, (LATER.out _ HB5.out).2⟩
                  case measure => simp [intOf]; omega
                · have i3 : decide (fB.size < bB.size) = false := decide_eq_false g3
                  have hst : relS sl gl (st1, true) f = (st1, true) := relS_no3 (by simp only [Bool.not_true, Bool.false_or]; rw [← HFZ.out, ← HBZ.out]; exact i3)
                  have HS := Lib.hid (by rw [← HFOLD.out, hst] : (L.drop (k + 1)).foldl (relS sl gl) (st1, true) = FIN)
                  clear g1 g2 hst
                  go_wp2_with (go_at_call 26; refine (HCALL.out _).mono ?_; rintro e w5 ⟨rfl, hb5⟩; (have HB5 := Lib.hid hb5); clear hb5)
                  go_roundw
                  case rel => exact ⟨k + 1, (st1, true), by go_num, by omega, by rw [HBB.out], rfl, HS.out, (LATER.out _ HB5.out).1, (LATER.out _ HB5.out).2⟩
                  case measure => simp [intOf]; omega
            · have i2 : (xB.toList == g.toList) = false := by rw [HXE.out]; exact decide_eq_false g2
              have hst : relS sl gl (st1, st2) f = (st1, st2) := relS_no2 (by rw [HX1.out]; exact g2)
              have HS := Lib.hid (by rw [← HFOLD.out, hst] : (L.drop (k + 1)).foldl (relS sl gl) (st1, st2) = FIN)
              clear g1 g2 hst
              go_wp2_with (go_at_call 26; refine (HCALL.out _).mono ?_; rintro e w5 ⟨rfl, hb5⟩; (have HB5 := Lib.hid hb5); clear hb5)
              go_roundw
              case rel => exact ⟨k + 1, (st1, st2), by go_num, by omega, by rw [HBB.out], rfl, HS.out, (LATER.out _ HB5.out).1, (LATER.out _ HB5.out).2⟩
              case measure => simp [intOf]; omega
          · have i1 : ((x2 : Int) == 0) = false := by simp [g1]
            have hst : relS sl gl (st1, st2) f = (st1, st2) := relS_no1 (by rw [HX2.out]; exact g1)
            have HS := Lib.hid (by rw [← HFOLD.out, hst] : (L.drop (k + 1)).foldl (relS sl gl) (st1, st2) = FIN)
            clear g1 hst
            go_wp2_with (go_at_call 26; refine (HCALL.out _).mono ?_; rintro e w5 ⟨rfl, hb5⟩; (have HB5 := Lib.hid hb5); clear hb5)
            go_roundw
            case rel => exact ⟨k + 1, (st1, st2), by go_num, by omega, by rw [HBB.out], rfl, HS.out, (LATER.out _ HB5.out).1, (LATER.out _ HB5.out).2⟩
            case measure => simp [intOf]; omega
        · have hend : L.drop k = [] := List.drop_of_length_le (by rw [← HN.out]; omega)
          rw [hend] at hfold
          have hf2 : FIN.1 = st1 := by rw [← hfold]; rfl
          have HF2 := Lib.hid hf2
          have HBEL := Lib.hid hbel
          clear hend hfold hf2 how hbel
          go_wp2_with fail
          go_ret2
          refine ⟨?_, HBEL.out⟩
          rw [HE2.out, HF2.out]
          rfl
    · have e1 : (c != 0) = false := by simp [h1]
      have e2 : (d != 0) = true := by rw [bne_iff_ne]; exact h2
      have hE2 : rs = ([], d) := by rw [HE.out, if_neg (by simp [h1]), if_pos h2]
      have HE2 := Lib.hid hE2
      clear hE2 h1 h2 hs1 hs2
      go_enter Try.func28, Try.ntmps28
      go_wp2_with fail
      refine (HCK.out _).mono ?_
      rintro e w1 ⟨rfl, hb1⟩
      have b1 := Lib.hid hb1
      clear hb1
      go_wp2_with fail
      refine (HDK.out _).mono ?_
      rintro e w2 ⟨rfl, hb2⟩
      have b2 := Lib.hid (b1.out.trans (hb2.mono b1.out.size))
      clear hb2
      go_wp2_with fail
      go_ret2
      refine ⟨?_, b2.out⟩
      rw [HE2.out]
      rfl
  · have e1 : (c != 0) = true := by rw [bne_iff_ne]; exact h1
    have e0 : (c != 0) = true := by rw [bne_iff_ne]; exact h1
    have hE2 : rs = ([], c) := by rw [HE.out, if_pos h1]
    have HE2 := Lib.hid hE2
    clear hE2 h1 hs1 hs2
    go_enter Try.func28, Try.ntmps28
    go_wp2_with fail
    refine (HCK.out _).mono ?_
    rintro e w1 ⟨rfl, hb1⟩
    have b1 := Lib.hid hb1
    clear hb1
    go_wp2_with fail
    go_ret2
    refine ⟨?_, b1.out⟩
    rw [HE2.out]
    rfl
set_option maxHeartbeats 2000000 in
set_option maxRecDepth 100000 in
theorem rrelative_calls (s g : ByteArray) (w : World) (hs : s.size ≤ 9223372036854770000) (hg : g.size ≤ 9223372036854770000) :
    Calls Try.prog 29 #[.string s, .string g] w fun e w' => e = .returned (.tuple #[.string ⟨(relE s.data.toList g.data.toList).1.toArray⟩, .int .i64 (relE s.data.toList g.data.toList).2]) ∧ Below w.heap.size w w' := by
  have hck := fun w => ircheck_calls s w hs
  have hdk := fun w => ircheck_calls g w hg
  have hz1 : irE s.data.toList = 0 → s.size ≤ 65536 := fun h => by rw [Lib.size_eq]; exact irE_size h
  have hz2 : irE g.data.toList = 0 → g.size ≤ 65536 ∧ sch g.data.toList ≠ 0 := fun h => ⟨by rw [Lib.size_eq]; exact irE_size h, irE_sch h⟩
  have hE : relE s.data.toList g.data.toList = if irE s.data.toList ≠ 0 then ([], irE s.data.toList) else if irE g.data.toList ≠ 0 then ([], irE g.data.toList) else ((relF s.data.toList g.data.toList (fms (splitP s.data.toList) (splitP g.data.toList) g.data.toList ++ [g.data.toList])).1, 0) := rfl
  have hs1 := splitP_sum s.data.toList
  have hs2 := splitP_sum g.data.toList
  rw [← Lib.size_eq] at hs1 hs2
  obtain ⟨c, hc⟩ : ∃ c, c = irE s.data.toList := ⟨_, rfl⟩
  obtain ⟨d, hd⟩ : ∃ d, d = irE g.data.toList := ⟨_, rfl⟩
  obtain ⟨rs, hr⟩ : ∃ rs, rs = relE s.data.toList g.data.toList := ⟨_, rfl⟩
  rw [← hr] at hE ⊢
  rw [← hc] at hck hz1 hE
  rw [← hd] at hdk hz2 hE
  have HCK := Lib.hid hck
  have HDK := Lib.hid hdk
  have HE := Lib.hid hE
  have HZ1 := Lib.hid hz1
  have HZ2 := Lib.hid hz2
  clear hck hdk hE hz1 hz2 hc hd hr
  by_cases h1 : c = 0
  · have z1 := HZ1.out h1
    by_cases h2 : d = 0
    · obtain ⟨z2, hsc⟩ := HZ2.out h2
      have hbs1 : (splitP s.data.toList).sum ≤ 400000 := by omega
      have hbs2 : (splitP g.data.toList).sum ≤ 400000 := by omega
      have hgl : g.data.toList.length ≤ 400000 := by rw [← Lib.size_eq]; omega
      have hfl := fms_len _ _ _ hbs1 hbs2 hgl
      have hfp := fms_pos (splitP s.data.toList) (splitP g.data.toList) g.data.toList
      have hcut := text_cut hsc
      have hfm := fun w => rforms_calls s g w (by omega) (by omega) hsc
      have hrs : ∀ (f : List UInt8) (w : World), f.length ≤ 4000000 → Calls Try.prog 27 #[.string s, .string ⟨f.toArray⟩] w fun e w' => e = .returned (.tuple #[.string ⟨(resE s.data.toList f).1.toArray⟩, .int .i64 (resE s.data.toList f).2]) ∧ Below w.heap.size w w' := fun f w hf => rresolve_calls s ⟨f.toArray⟩ w (by omega) (by rw [Lib.size_eq]; show f.length ≤ _; omega)
      obtain ⟨p, hp⟩ : ∃ p, p = splitP s.data.toList := ⟨_, rfl⟩
      obtain ⟨q, hq⟩ : ∃ q, q = splitP g.data.toList := ⟨_, rfl⟩
      rw [← hp] at hfl hfp hfm HE
      rw [← hq] at hfl hfp hfm HE

      obtain ⟨F0, hF0⟩ : ∃ F0, F0 = fms p q g.data.toList := ⟨_, rfl⟩
      rw [← hF0] at hfl hfp hfm HE
      obtain ⟨L, hL⟩ : ∃ L, L = F0 ++ [g.data.toList] := ⟨_, rfl⟩
      rw [← hL] at hfl hfp HE
      rw [← hL] at hfm
      obtain ⟨gl, hgl0⟩ : ∃ gl, gl = g.data.toList := ⟨_, rfl⟩
      obtain ⟨sl, hsl0⟩ : ∃ sl, sl = s.data.toList := ⟨_, rfl⟩
      rw [← hsl0] at hrs HE
      have hE2 : rs = ((L.foldl (relS sl gl) (gl, false)).1, 0) := by rw [HE.out, if_neg (by simp [h1]), if_neg (by simp [h2]), hgl0]; rfl
      obtain ⟨FIN, hFIN⟩ : ∃ FIN, FIN = L.foldl (relS sl gl) (gl, false) := ⟨_, rfl⟩
      rw [← hFIN] at hE2
      have e1 : ((c : Int) == 0) = true := by simp [h1]
      have e2 : (d != 0) = false := by simp [h2]
      obtain ⟨hfp0, hfp1⟩ := hfp
      have hgb : g = ⟨gl.toArray⟩ := by rw [hgl0]
      have HRS := Lib.hid hrs
      have HFM := Lib.hid hfm
      have HE2 := Lib.hid hE2
      have HFIN := Lib.hid hFIN
      have HFL := Lib.hid hfl
      have HGL := Lib.hid hgl0
      have HGB := Lib.hid hgb
      have HL := Lib.hid hL
      clear hrs hfm hE2 hFIN hfl hgl0 hsl0 hp hq hL hF0 hs1 hs2 hbs1 hbs2 hgl h1 h2 hsc hcut hgb HE
      go_enter Try.func29, Try.ntmps29
      go_wp2_with fail
      refine (HCK.out _).mono ?_
      rintro e w1 ⟨rfl, hb1⟩
      have b1 := Lib.hid hb1
      clear hb1
      go_wp2_with fail
      refine (HDK.out _).mono ?_
      rintro e w2 ⟨rfl, hb2⟩
      have b2 := Lib.hid (b1.out.trans (hb2.mono b1.out.size))
      clear hb2
      go_wp2_with fail
      refine (HFM.out _).mono ?_
      rintro e w4 ⟨v, rfl, ho3, hb3⟩
      have b4 := Lib.hid (b2.out.trans (hb3.mono b2.out.size))
      have HOW := Lib.hid (ho3.mono (base' := w.heap.size) b2.out.size)
      clear hb3 ho3
      obtain ⟨gb, cc, rfl, hcc1, hcc2⟩ := HOW.out.shape hfp0
      obtain ⟨n, hn⟩ : ∃ n, n = L.length := ⟨_, rfl⟩
      have how2 := HOW.out
      rw [← hn] at how2 hfp0 hfp1 hcc1 ⊢
      have HOW2 := Lib.hid how2
      have HN := Lib.hid hn
      have HGBS := Lib.hid (show (⟨gl.toArray⟩ : ByteArray) = g from HGB.out.symm)
      clear how2 hn HOW
      go_wp2_with fail
      go_loopw [7, 8, 10] (fun bv fv iv wr => ∃ (k : Nat) (st : List UInt8 × Bool), iv = .int .i64 (k : Nat) ∧ k ≤ n ∧ bv = .string ⟨st.1.toArray⟩ ∧ fv = .bool st.2 ∧ (L.drop k).foldl (relS sl gl) st = FIN ∧ OwL 9 w.heap.size wr (.slice (some ⟨gb, 0, none⟩) n cc) L ∧ Below w.heap.size w wr) (fun bv fv iv _ => n - (intOf iv).toNat)
      case atStart => exact ⟨0, (gl, false), rfl, Nat.zero_le _, by rw [HGBS.out], rfl, by rw [HFIN.out]; rfl, HOW2.out, b4.out⟩
      case round =>
        obtain ⟨k, ⟨st1, st2⟩, rfl, hk, rfl, rfl, hfold, how, hbel⟩ := hrel
        have hwsz := hbel.size
        by_cases hlt : k < n
        · have hkl : k < L.length := by rw [← HN.out]; exact hlt
          have hcell := how.at k hkl
          have hfb := HFL.out L[k] (List.getElem_mem hkl)
          rw [List.drop_eq_getElem_cons hkl, List.foldl_cons] at hfold
          obtain ⟨f, hf⟩ : ∃ f, f = L[k] := ⟨_, rfl⟩
          rw [← hf] at hcell hfb hfold
          have HFK := Lib.hid hf
          have hcall := fun w => HRS.out f w hfb
          obtain ⟨x, hx⟩ : ∃ x, x = resE sl f := ⟨_, rfl⟩
          rw [← hx] at hcall
          obtain ⟨x1, x2⟩ := x
          obtain ⟨fB, hfB⟩ : ∃ fB : ByteArray, fB = ⟨f.toArray⟩ := ⟨_, rfl⟩
          obtain ⟨bB, hbB⟩ : ∃ bB : ByteArray, bB = ⟨st1.toArray⟩ := ⟨_, rfl⟩
          obtain ⟨xB, hxB⟩ : ∃ xB : ByteArray, xB = ⟨x1.toArray⟩ := ⟨_, rfl⟩
          have hfz : fB.size = f.length := by rw [hfB, Lib.size_eq]
          have hbz : bB.size = st1.length := by rw [hbB, Lib.size_eq]
          have hxe : (xB.toList == g.toList) = decide (x1 = gl) := by
            rw [Lib.toList_data, Lib.toList_data, hxB, ← HGL.out]
            by_cases h : x1 = gl
            · simp [h]
            · simp [h]
          rw [← hfB] at hcall hcell
          rw [← hxB] at hcall
          rw [← hbB]
          have hx1 : (resE sl f).1 = x1 := by rw [← hx]
          have hx2 : (resE sl f).2 = x2 := by rw [← hx]
          have HCALL := Lib.hid hcall
          have HX1 := Lib.hid hx1
          have HX2 := Lib.hid hx2
          have HFOLD := Lib.hid hfold
          have HOWR := Lib.hid how
          have HBEL := Lib.hid hbel
          have HFB := Lib.hid hfB
          have HBB := Lib.hid hbB
          have HXE := Lib.hid hxe
          have HFZ := Lib.hid hfz
          have HBZ := Lib.hid hbz
          clear hcall hx hx1 hx2 hfold how hbel hfB hbB hxB hfz hbz hxe hf hfb
          have later : ∀ w5 : World, Below wr.heap.size wr w5 → OwL 9 w.heap.size w5 (.slice (some ⟨gb, 0, none⟩) n cc) L ∧ Below w.heap.size w w5 := fun w5 hb => ⟨HOWR.out.keep hb (Nat.le_refl _), HBEL.out.trans (hb.mono HBEL.out.size)⟩
          have LATER := Lib.hid later
          clear later
          by_cases g1 : x2 = 0
          · have i1 : ((x2 : Int) == 0) = true := by simp [g1]
            by_cases g2 : x1 = gl
            · have i2 : (xB.toList == g.toList) = true := by rw [HXE.out]; exact decide_eq_true g2
              cases st2 with
              | false =>
                have hst : relS sl gl (st1, false) f = (f, true) := relS_yes (by rw [HX2.out]; exact g1) (by rw [HX1.out]; exact g2) rfl
                have HS := Lib.hid (by rw [← HFOLD.out, hst] : (L.drop (k + 1)).foldl (relS sl gl) (f, true) = FIN)
                clear g1 g2 hst
                go_wp2_with (go_at_call 27; refine (HCALL.out _).mono ?_; rintro e w5 ⟨rfl, hb5⟩; (have HB5 := Lib.hid hb5); (have hc5 := (LATER.out _ HB5.out).1.at k hkl); (rw [← HFK.out, ← HFB.out] at hc5); clear hb5)
                go_roundw
                case rel => exact ⟨k + 1, (f, true), by go_num, by omega, by rw [HFB.out], rfl, HS.out, (LATER.out _ HB5.out).1, (LATER.out _ HB5.out).2⟩
                case measure => simp [intOf]; omega
              | true =>
                by_cases g3 : fB.size < bB.size
                · have i3 : decide (fB.size < bB.size) = true := decide_eq_true g3
                  have hst : relS sl gl (st1, true) f = (f, true) := relS_yes (by rw [HX2.out]; exact g1) (by rw [HX1.out]; exact g2) (by simp only [Bool.not_true, Bool.false_or]; rw [← HFZ.out, ← HBZ.out]; exact i3)
                  have HS := Lib.hid (by rw [← HFOLD.out, hst] : (L.drop (k + 1)).foldl (relS sl gl) (f, true) = FIN)
                  clear g1 g2 hst
                  go_wp2_with (go_at_call 27; refine (HCALL.out _).mono ?_; rintro e w5 ⟨rfl, hb5⟩; (have HB5 := Lib.hid hb5); (have hc5 := (LATER.out _ HB5.out).1.at k hkl); (rw [← HFK.out, ← HFB.out] at hc5); clear hb5)
                  go_roundw
                  case rel => exact ⟨k + 1, (f, true), by go_num, by omega, by rw [HFB.out], rfl, HS.out, (LATER.out _ HB5.out).1, (LATER.out _ HB5.out).2⟩
                  case measure => simp [intOf]; omega
                · have i3 : decide (fB.size < bB.size) = false := decide_eq_false g3
                  have hst : relS sl gl (st1, true) f = (st1, true) := relS_no3 (by simp only [Bool.not_true, Bool.false_or]; rw [← HFZ.out, ← HBZ.out]; exact i3)
                  have HS := Lib.hid (by rw [← HFOLD.out, hst] : (L.drop (k + 1)).foldl (relS sl gl) (st1, true) = FIN)
                  clear g1 g2 hst
                  go_wp2_with (go_at_call 27; refine (HCALL.out _).mono ?_; rintro e w5 ⟨rfl, hb5⟩; (have HB5 := Lib.hid hb5); (have hc5 := (LATER.out _ HB5.out).1.at k hkl); (rw [← HFK.out, ← HFB.out] at hc5); clear hb5)
                  go_roundw
                  case rel => exact ⟨k + 1, (st1, true), by go_num, by omega, by rw [HBB.out], rfl, HS.out, (LATER.out _ HB5.out).1, (LATER.out _ HB5.out).2⟩
                  case measure => simp [intOf]; omega
            · have i2 : (xB.toList == g.toList) = false := by rw [HXE.out]; exact decide_eq_false g2
              have hst : relS sl gl (st1, st2) f = (st1, st2) := relS_no2 (by rw [HX1.out]; exact g2)
              have HS := Lib.hid (by rw [← HFOLD.out, hst] : (L.drop (k + 1)).foldl (relS sl gl) (st1, st2) = FIN)
              clear g1 g2 hst
              go_wp2_with (go_at_call 27; refine (HCALL.out _).mono ?_; rintro e w5 ⟨rfl, hb5⟩; (have HB5 := Lib.hid hb5); (have hc5 := (LATER.out _ HB5.out).1.at k hkl); (rw [← HFK.out, ← HFB.out] at hc5); clear hb5)
              go_roundw
              case rel => exact ⟨k + 1, (st1, st2), by go_num, by omega, by rw [HBB.out], rfl, HS.out, (LATER.out _ HB5.out).1, (LATER.out _ HB5.out).2⟩
              case measure => simp [intOf]; omega
          · have i1 : ((x2 : Int) == 0) = false := by simp [g1]
            have hst : relS sl gl (st1, st2) f = (st1, st2) := relS_no1 (by rw [HX2.out]; exact g1)
            have HS := Lib.hid (by rw [← HFOLD.out, hst] : (L.drop (k + 1)).foldl (relS sl gl) (st1, st2) = FIN)
            clear g1 hst
            go_wp2_with (go_at_call 27; refine (HCALL.out _).mono ?_; rintro e w5 ⟨rfl, hb5⟩; (have HB5 := Lib.hid hb5); (have hc5 := (LATER.out _ HB5.out).1.at k hkl); (rw [← HFK.out, ← HFB.out] at hc5); clear hb5)
            go_roundw
            case rel => exact ⟨k + 1, (st1, st2), by go_num, by omega, by rw [HBB.out], rfl, HS.out, (LATER.out _ HB5.out).1, (LATER.out _ HB5.out).2⟩
            case measure => simp [intOf]; omega
        · have hend : L.drop k = [] := List.drop_of_length_le (by rw [← HN.out]; omega)
          rw [hend] at hfold
          have hf2 : FIN.1 = st1 := by rw [← hfold]; rfl
          have HF2 := Lib.hid hf2
          have HBEL := Lib.hid hbel
          clear hend hfold hf2 how hbel
          go_wp2_with fail
          go_ret2
          refine ⟨?_, HBEL.out⟩
          rw [HE2.out, HF2.out]
          rfl
    · have e1 : ((c : Int) == 0) = true := by simp [h1]
      have e2 : (d != 0) = true := by rw [bne_iff_ne]; exact h2
      have hE2 : rs = ([], d) := by rw [HE.out, if_neg (by simp [h1]), if_pos h2]
      have HE2 := Lib.hid hE2
      clear hE2 h1 h2 hs1 hs2
      go_enter Try.func29, Try.ntmps29
      go_wp2_with fail
      refine (HCK.out _).mono ?_
      rintro e w1 ⟨rfl, hb1⟩
      have b1 := Lib.hid hb1
      clear hb1
      go_wp2_with fail
      refine (HDK.out _).mono ?_
      rintro e w2 ⟨rfl, hb2⟩
      have b2 := Lib.hid (b1.out.trans (hb2.mono b1.out.size))
      clear hb2
      go_wp2_with fail
      go_ret2
      refine ⟨?_, b2.out⟩
      rw [HE2.out]
      rfl
  · have e1 : ((c : Int) == 0) = false := by simp [h1]
    have e0 : (c != 0) = true := by rw [bne_iff_ne]; exact h1
    have hE2 : rs = ([], c) := by rw [HE.out, if_pos h1]
    have HE2 := Lib.hid hE2
    clear hE2 h1 hs1 hs2
    go_enter Try.func29, Try.ntmps29
    go_wp2_with fail
    refine (HCK.out _).mono ?_
    rintro e w1 ⟨rfl, hb1⟩
    have b1 := Lib.hid hb1
    clear hb1
    go_wp2_with fail
    go_ret2
    refine ⟨?_, b1.out⟩
    rw [HE2.out]
    rfl
theorem irirelates_go (w : World) (s : ByteArray) (hs : s.size ≤ 140737488351232) (t : ByteArray) (ht : t.size ≤ 140737488351232) :
    Calls Try.prog 9 #[.string s, .string t] w fun e w' => e = .returned (.bool true) ∧ Below w.heap.size w w' := by
  have h1 := fun w => relative_calls s t w (by omega) (by omega)
  have h2 := fun w => rrelative_calls s t w (by omega) (by omega)
  obtain ⟨rs, hrs⟩ : ∃ rs, rs = relE s.data.toList t.data.toList := ⟨_, rfl⟩
  rw [← hrs] at h1 h2
  obtain ⟨bx, hbx⟩ : ∃ bx : ByteArray, bx = ⟨rs.1.toArray⟩ := ⟨_, rfl⟩
  rw [← hbx] at h1 h2
  obtain ⟨c, hc⟩ : ∃ c, c = rs.2 := ⟨_, rfl⟩
  rw [← hc] at h1 h2
  have e1 : (bx.toList == bx.toList) = true := by simp
  have e2 : (c == c) = true := by simp
  have H1 := Lib.hid h1
  have H2 := Lib.hid h2
  clear hc hbx hrs h1 h2
  go_enter Try.func9, Try.ntmps9
  go_wp2_with fail
  refine (H1.out _).mono ?_
  rintro e w1 ⟨rfl, hb1⟩
  go_wp2_with fail
  refine (H2.out _).mono ?_
  rintro e w2 ⟨rfl, hb2⟩
  have b2 := hb1.trans (hb2.mono hb1.size)
  go_wp2_with fail
  go_ret
  exact ⟨rfl, b2⟩
end Go.Proofs.Ythdkhlkmcebfeaa
