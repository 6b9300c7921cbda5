/- IriRelative: a short form means the same. -/
import Derived.Test.YthdkhlkmcebfeaaIriTp
import Derived.Test.YthdkhlkmcebfeaaIriDots
import Derived.Test.YthdkhlkmcebfeaaIriAwake
import Derived.Test.YthdkhlkmcebfeaaIriSplits
set_option linter.unusedVariables false
set_option linter.unusedSimpArgs false
namespace Go.Proofs.Ythdkhlkmcebfeaa
open Go.RowKit Go.Tk
theorem split_ok2 (s : ByteArray) (w : World) (hs : s.size ≤ 9223372036854770000) (h : refE s.data.toList = 0) : Calls Try.prog 22 #[.string s] w fun e w' => e = .returned (.tuple #[.agg (splitP s.data.toList).cells, .int .i64 0]) ∧ Below w.heap.size w w' := by
  have := split2_calls s w hs
  rw [if_pos h, h] at this
  exact this
set_option maxHeartbeats 4000000 in
set_option maxRecDepth 100000 in
theorem irirelative_go (w : World) (s : ByteArray) (hs : s.size ≤ 140737488351232) (g : ByteArray) (hg : g.size ≤ 140737488351232) :
    Calls Try.prog 11 #[.string s, .string g] w fun e w' => e = .returned (.bool true) ∧ Below w.heap.size w w' := by
  have hck := fun w => icheck_calls s w (by omega)
  have hdk := fun w => icheck_calls g w (by omega)
  obtain ⟨c, hc⟩ : ∃ c, c = irE s.data.toList := ⟨_, rfl⟩
  obtain ⟨d, hd⟩ : ∃ d, d = irE g.data.toList := ⟨_, rfl⟩
  rw [← hc] at hck
  rw [← hd] at hdk
  have HCK := Lib.hid hck
  have HDK := Lib.hid hdk
  clear hck hdk
  by_cases h0 : c = 0
  · have e0 : (c != 0) = false := by simp [h0]
    by_cases h1 : d = 0
    · have e1 : (d != 0) = false := by simp [h1]
      have hb : irE s.data.toList = 0 := by rw [← hc]; exact h0
      have hgE : irE g.data.toList = 0 := by rw [← hd]; exact h1
      obtain ⟨m1, m2, m3⟩ := relE_main hb hgE
      obtain ⟨l1, l2, l3, l4⟩ := own_laws hb
      have hro := rel_own hb
      have hsz : s.data.toList.length ≤ 65536 := irE_size hb
      have hgz : g.data.toList.length ≤ 65536 := irE_size hgE
      have hrl := fun w => relative_calls s g w (by omega) (by omega)
      have hsp := fun w => split_ok2 g w (by omega) ((irE_iff _).1 hgE).1
      have hsum := splitP_sum g.data.toList
      obtain ⟨x, hx⟩ : ∃ x, x = relE s.data.toList g.data.toList := ⟨_, rfl⟩
      rw [← hx] at hrl m1 m2 m3
      obtain ⟨x1, x2⟩ := x
      simp only at m1 m2 m3 hrl
      subst m1
      obtain ⟨bB, hbB⟩ : ∃ bB : ByteArray, bB = ⟨x1.toArray⟩ := ⟨_, rfl⟩
      have hbd : bB.data.toList = x1 := by rw [hbB]
      have hbz : bB.size ≤ g.size := by rw [Lib.size_eq, Lib.size_eq, hbd]; exact m2
      have hgz2 : g.size ≤ 65536 := by rw [Lib.size_eq]; exact hgz
      rw [← hbB] at hrl
      have hrv := fun w => resolve_calls s bB w (by omega) (by omega)
      rw [hbd] at hrv
      obtain ⟨p, hp⟩ : ∃ p, p = splitP g.data.toList := ⟨_, rfl⟩
      rw [← hp] at hsp m3 hsum
      have hpz : p.pa.length ≤ 1000000 := by unfold Prts.sum at hsum; omega
      have hdt := fun w => dots_calls ⟨p.pa.toArray⟩ w (by rw [Lib.size_eq]; show p.pa.length ≤ _; omega)
      rw [show (⟨p.pa.toArray⟩ : ByteArray).data.toList = p.pa from rfl] at hdt
      obtain ⟨q, hq⟩ : ∃ q, q = dotsB p.pa := ⟨_, rfl⟩
      rw [← hq] at hdt m3
      have hre : ∀ w, Calls Try.prog 26 #[.string s, .string ⟨#[]⟩] w fun e w' => e = .returned (.tuple #[.string ⟨(ownP s.data.toList).text.toArray⟩, .int .i64 0]) ∧ Below w.heap.size w w' := fun w => by
        have := resolve_calls s ⟨#[]⟩ w (by omega) (by decide)
        rw [show (⟨#[]⟩ : ByteArray).data.toList = [] from rfl, l1] at this
        exact this
      have hr2 : ∀ w, Calls Try.prog 28 #[.string s, .string ⟨(ownP s.data.toList).text.toArray⟩] w fun e w' => e = .returned (.tuple #[.string ⟨#[]⟩, .int .i64 0]) ∧ Below w.heap.size w w' := fun w => by
        have := relative_calls s ⟨(ownP s.data.toList).text.toArray⟩ w (by omega) (by rw [Lib.size_eq]; show (ownP s.data.toList).text.length ≤ _; omega)
        rw [show (⟨(ownP s.data.toList).text.toArray⟩ : ByteArray).data.toList = (ownP s.data.toList).text from rfl, hro] at this
        exact this
      obtain ⟨oB, hoB⟩ : ∃ oB : ByteArray, oB = ⟨(ownP s.data.toList).text.toArray⟩ := ⟨_, rfl⟩
      rw [← hoB] at hre hr2
      obtain ⟨y, hy⟩ : ∃ y, y = resE s.data.toList x1 := ⟨_, rfl⟩
      rw [← hy] at hrv m3
      obtain ⟨y1, y2⟩ := y
      simp only at hrv
      have hgg : q = false → y2 = 0 ∧ (⟨y1.toArray⟩ : ByteArray) = g := fun h => by
        have := m3 h
        simp only [Prod.mk.injEq] at this
        exact ⟨this.2, byte_ext this.1⟩
      have hi8 : (Try.prog.info? 34).map (·.size) = some 8 := by kernel_rfl
      obtain ⟨yB, hyB⟩ : ∃ yB : ByteArray, yB = ⟨y1.toArray⟩ := ⟨_, rfl⟩
      rw [← hyB] at hrv hgg
      have HI8 := Lib.hid hi8
      have HRL := Lib.hid hrl
      have HRV := Lib.hid hrv
      have HDT := Lib.hid hdt
      have HRE := Lib.hid hre
      have HR2 := Lib.hid hr2
      have HGG := Lib.hid hgg
      have HSP : Hid (∀ w, Calls Try.prog 22 #[.string g] w fun e w' => e = .returned (.tuple #[.agg p.cells, .int .i64 0]) ∧ Below w.heap.size w w') := Lib.hid hsp
      clear hb hgE m2 m3 l1 l2 l3 l4 hro hsz hgz hrl hsp hsum hx hbB hbd hrv hp hdt hq hre hr2 hoB hy hgg hi8 hyB hc hd h0 h1
      go_enter Try.func11, Try.ntmps11
      go_wp2_with fail
      refine (awake_calls _).mono ?_
      rintro e w1 ⟨rfl, hb1⟩
      have B1 := Lib.hid hb1
      clear hb1
      go_wp2_with fail
      refine (HCK.out _).mono ?_
      rintro e w2 ⟨rfl, hb2⟩
      have B2 := Lib.hid (B1.out.trans (hb2.mono B1.out.size))
      clear hb2
      go_wp2_with fail
      refine (HDK.out _).mono ?_
      rintro e w3 ⟨rfl, hb3⟩
      have B3 := Lib.hid (B2.out.trans (hb3.mono B2.out.size))
      clear hb3
      go_wp2_with fail
      refine (HRL.out _).mono ?_
      rintro e w4 ⟨rfl, hb4⟩
      have B4 := Lib.hid (B3.out.trans (hb4.mono B3.out.size))
      clear hb4
      go_wp2_with fail
      refine (HSP.out _).mono ?_
      rintro e w5 ⟨rfl, hb5⟩
      have B5 := Lib.hid (B4.out.trans (hb5.mono B4.out.size))
      have hs5 := B5.out.size
      obtain ⟨hn6, hb6⟩ := alloc_row w5 P0.cells p.cells 34
      have ha5 := heap_alloc_new w5 (.cells P0.cells 34)
      have HN6 := Lib.hid hn6
      have HB6 := Lib.hid hb6
      have HA5 := Lib.hid ha5
      clear hb5 hn6 hb6 ha5
      go_upto_region 10 with (refine wpList_store_row rfl 34 _ _ rfl w5.heap.size p.cells rfl rfl _ _ HA5.out HI8.out rfl (Prts.one p) ?_)
      generalize hw6 : World.setRow _ w5.heap.size p.cells = w6
      have r6 : w6.heap[w5.heap.size]? = some (.cells p.cells 34 (0, 0)) := by rw [← hw6]; exact HN6.out
      have b6 : Below w5.heap.size w5 w6 := by rw [← hw6]; exact HB6.out
      have B6 := Lib.hid (B5.out.trans (b6.mono hs5))
      have R6 := Lib.hid r6
      have hl6 := lt_of_block r6
      clear hw6 r6 b6 HN6 HB6 HA5
      go_wp2_with fail
      refine (HRV.out _).mono ?_
      rintro e w7 ⟨rfl, hb7⟩
      have r7 := (hb7.block _ hl6).trans R6.out
      have B7 := Lib.hid (B6.out.trans (hb7.mono B6.out.size))
      have k2 := (row8' r7).2.2.1
      clear hb7 r7
      go_wp2_with fail
      refine (HDT.out _).mono ?_
      rintro e w8 ⟨rfl, hb8⟩
      have B8 := Lib.hid (B7.out.trans (hb8.mono B7.out.size))
      clear hb8 k2
      cases q with
      | true =>
        go_wp2_with fail
        refine (HRE.out _).mono ?_
        rintro e w9 ⟨rfl, hb9⟩
        have B9 := Lib.hid (B8.out.trans (hb9.mono B8.out.size))
        clear hb9
        go_wp2_with fail
        refine (HR2.out _).mono ?_
        rintro e w10 ⟨rfl, hb10⟩
        have B10 := Lib.hid (B9.out.trans (hb10.mono B9.out.size))
        clear hb10
        go_wp2_with fail
        go_ret
        exact ⟨rfl, B10.out⟩
      | false =>
        obtain ⟨rfl, rfl⟩ := HGG.out rfl
        have eyy : (yB.toList != yB.toList) = false := by simp
        go_wp2_with fail
        refine (HRE.out _).mono ?_
        rintro e w9 ⟨rfl, hb9⟩
        have B9 := Lib.hid (B8.out.trans (hb9.mono B8.out.size))
        clear hb9
        go_wp2_with fail
        refine (HR2.out _).mono ?_
        rintro e w10 ⟨rfl, hb10⟩
        have B10 := Lib.hid (B9.out.trans (hb10.mono B9.out.size))
        clear hb10
        go_wp2_with fail
        go_ret
        exact ⟨rfl, B10.out⟩
    · have e1 : (d != 0) = true := by rw [bne_iff_ne]; exact h1
      obtain ⟨v1, v2⟩ := relE_bad (b := s.data.toList) (g := g.data.toList) (.inr (by rw [← hd]; exact h1))
      have hrl := fun w => relative_calls s g w (by omega) (by omega)
      obtain ⟨x, hx⟩ : ∃ x, x = relE s.data.toList g.data.toList := ⟨_, rfl⟩
      rw [← hx] at hrl v1 v2
      obtain ⟨x1, x2⟩ := x
      simp only at v1 v2 hrl
      subst v1
      have ex : (x2 != 0) = true := by rw [bne_iff_ne]; exact v2
      have HRL := Lib.hid hrl
      clear hrl hx v2 hc hd h0 h1
      go_enter Try.func11, Try.ntmps11
      go_wp2_with fail
      refine (awake_calls _).mono ?_
      rintro e w1 ⟨rfl, hb1⟩
      have B1 := Lib.hid hb1
      clear hb1
      go_wp2_with fail
      refine (HCK.out _).mono ?_
      rintro e w2 ⟨rfl, hb2⟩
      have B2 := Lib.hid (B1.out.trans (hb2.mono B1.out.size))
      clear hb2
      go_wp2_with fail
      refine (HDK.out _).mono ?_
      rintro e w3 ⟨rfl, hb3⟩
      have B3 := Lib.hid (B2.out.trans (hb3.mono B2.out.size))
      clear hb3
      go_wp2_with fail
      refine (HRL.out _).mono ?_
      rintro e w4 ⟨rfl, hb4⟩
      have B4 := Lib.hid (B3.out.trans (hb4.mono B3.out.size))
      clear hb4
      go_wp2_with fail
      go_ret
      exact ⟨rfl, B4.out⟩
  · have e0 : (c != 0) = true := by rw [bne_iff_ne]; exact h0
    obtain ⟨v1, v2⟩ := relE_bad (b := s.data.toList) (g := g.data.toList) (.inl (by rw [← hc]; exact h0))
    have hrl := fun w => relative_calls s g w (by omega) (by omega)
    obtain ⟨x, hx⟩ : ∃ x, x = relE s.data.toList g.data.toList := ⟨_, rfl⟩
    rw [← hx] at hrl v1 v2
    obtain ⟨x1, x2⟩ := x
    simp only at v1 v2 hrl
    subst v1
    have ex : (x2 != 0) = true := by rw [bne_iff_ne]; exact v2
    have HRL := Lib.hid hrl
    clear hrl hx v2 hc hd h0
    go_enter Try.func11, Try.ntmps11
    go_wp2_with fail
    refine (awake_calls _).mono ?_
    rintro e w1 ⟨rfl, hb1⟩
    have B1 := Lib.hid hb1
    clear hb1
    go_wp2_with fail
    refine (HCK.out _).mono ?_
    rintro e w2 ⟨rfl, hb2⟩
    have B2 := Lib.hid (B1.out.trans (hb2.mono B1.out.size))
    clear hb2
    go_wp2_with fail
    refine (HRL.out _).mono ?_
    rintro e w4 ⟨rfl, hb4⟩
    have B4 := Lib.hid (B2.out.trans (hb4.mono B2.out.size))
    clear hb4
    go_wp2_with fail
    go_ret
    exact ⟨rfl, B4.out⟩
end Go.Proofs.Ythdkhlkmcebfeaa
