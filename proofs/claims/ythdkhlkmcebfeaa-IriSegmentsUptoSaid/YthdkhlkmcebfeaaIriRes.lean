/- Resolve: the program's, the document's. -/
import Derived.Test.YthdkhlkmcebfeaaIriTgR
import Derived.Test.YthdkhlkmcebfeaaIriJoin
import Derived.Test.YthdkhlkmcebfeaaIriPt
import Derived.Test.YthdkhlkmcebfeaaIriJn
set_option linter.unusedVariables false
set_option linter.unusedSimpArgs false
namespace Go.Tk
open Go Go.RowKit
/-- What Resolve answers. -/
def resE (base ref : List UInt8) : List UInt8 × Int :=
  if irE base ≠ 0 then ([], irE base) else if refE ref ≠ 0 then ([], refE ref)
  else if 65536 < (targetP (splitP base) (splitP ref)).text.length then ([], 2) else ((targetP (splitP base) (splitP ref)).text, 0)
end Go.Tk
namespace Go.Proofs.Ythdkhlkmcebfeaa
open Go.RowKit Go.Tk
set_option maxHeartbeats 1000000 in
theorem resolve_calls (s t : ByteArray) (w : World) (hs : s.size ≤ 9223372036854770000) (ht : t.size ≤ 9223372036854770000) :
    Calls Try.prog 26 #[.string s, .string t] w fun e w' => e = .returned (.tuple #[.string ⟨(resE s.data.toList t.data.toList).1.toArray⟩, .int .i64 (resE s.data.toList t.data.toList).2]) ∧ Below w.heap.size w w' := by
  have hck := fun w => icheck_calls s w hs
  have hrf := fun w => reference_calls t w ht
  have hz1 : irE s.data.toList = 0 → s.size ≤ 65536 := fun h => by rw [Lib.size_eq]; exact irE_size h
  have hz2 : refE t.data.toList = 0 → t.size ≤ 65536 := fun h => by rw [Lib.size_eq]; exact refE_size' h
  have hE : resE s.data.toList t.data.toList = if irE s.data.toList ≠ 0 then ([], irE s.data.toList) else if refE t.data.toList ≠ 0 then ([], refE t.data.toList) else if 65536 < (targetP (splitP s.data.toList) (splitP t.data.toList)).text.length then ([], 2) else ((targetP (splitP s.data.toList) (splitP t.data.toList)).text, 0) := rfl
  have hs1 := splitP_sum s.data.toList
  have hs2 := splitP_sum t.data.toList
  rw [← Lib.size_eq] at hs1 hs2
  obtain ⟨c, hc⟩ : ∃ c, c = irE s.data.toList := ⟨_, rfl⟩
  obtain ⟨d, hd⟩ : ∃ d, d = refE t.data.toList := ⟨_, rfl⟩
  have hsp := fun w hz => split_calls s w hz
  have hsq := fun w hz => split_calls t w hz
  obtain ⟨p, hp⟩ : ∃ p, p = splitP s.data.toList := ⟨_, rfl⟩
  obtain ⟨q, hq⟩ : ∃ q, q = splitP t.data.toList := ⟨_, rfl⟩
  obtain ⟨rs, hr⟩ : ∃ rs, rs = resE s.data.toList t.data.toList := ⟨_, rfl⟩
  rw [← hr] at hE ⊢
  rw [← hc] at hck hz1 hE
  rw [← hd] at hrf hz2 hE
  rw [← hp] at hsp hs1 hE
  rw [← hq] at hsq hs2 hE
  have HCK := Lib.hid hck
  have HRF := Lib.hid hrf
  have HE := Lib.hid hE
  have HZ1 := Lib.hid hz1
  have HZ2 := Lib.hid hz2
  clear hck hrf hE hz1 hz2 hc hd hp hq hr
  by_cases h1 : c = 0
  · have z1 := HZ1.out h1
    by_cases h2 : d = 0
    · have z2 := HZ2.out h2
      have hsp' : ∀ w, Calls Try.prog 48 #[.string s] w fun e w' => e = .returned (.agg #[.string ⟨p.sc.toArray⟩, .string ⟨p.au.toArray⟩, .string ⟨p.pa.toArray⟩, .string ⟨p.qu.toArray⟩, .string ⟨p.fr.toArray⟩, .bool p.ha, .bool p.hq, .bool p.hf]) ∧ Below w.heap.size w w' := fun w => hsp w (by omega)
      have hsq' : ∀ w, Calls Try.prog 48 #[.string t] w fun e w' => e = .returned (.agg #[.string ⟨q.sc.toArray⟩, .string ⟨q.au.toArray⟩, .string ⟨q.pa.toArray⟩, .string ⟨q.qu.toArray⟩, .string ⟨q.fr.toArray⟩, .bool q.ha, .bool q.hq, .bool q.hf]) ∧ Below w.heap.size w w' := fun w => hsq w (by omega)
      have hts := targetP_sum p q
      obtain ⟨g, hg⟩ : ∃ g, g = targetP p q := ⟨_, rfl⟩
      have htg : ∀ w, Calls Try.prog 52 #[.agg #[.string ⟨p.sc.toArray⟩, .string ⟨p.au.toArray⟩, .string ⟨p.pa.toArray⟩, .string ⟨p.qu.toArray⟩, .string ⟨p.fr.toArray⟩, .bool p.ha, .bool p.hq, .bool p.hf], .agg #[.string ⟨q.sc.toArray⟩, .string ⟨q.au.toArray⟩, .string ⟨q.pa.toArray⟩, .string ⟨q.qu.toArray⟩, .string ⟨q.fr.toArray⟩, .bool q.ha, .bool q.hq, .bool q.hf]] w fun e w' => e = .returned (.agg #[.string ⟨g.sc.toArray⟩, .string ⟨g.au.toArray⟩, .string ⟨g.pa.toArray⟩, .string ⟨g.qu.toArray⟩, .string ⟨g.fr.toArray⟩, .bool g.ha, .bool g.hq, .bool g.hf]) ∧ Below w.heap.size w w' := fun w => by rw [hg]; exact target_calls p q w (by omega) (by omega)
      have htl := Prts.text_len g
      rw [← hg] at hts
      have hgs : g.sc.length + g.au.length + g.pa.length + g.qu.length + g.fr.length ≤ 1000000 := by unfold Prts.sum at hts hs1 hs2; omega
      obtain ⟨tx, htx⟩ : ∃ tx : ByteArray, tx = ⟨g.text.toArray⟩ := ⟨_, rfl⟩
      have hjn : ∀ w, Calls Try.prog 50 #[.agg #[.string ⟨g.sc.toArray⟩, .string ⟨g.au.toArray⟩, .string ⟨g.pa.toArray⟩, .string ⟨g.qu.toArray⟩, .string ⟨g.fr.toArray⟩, .bool g.ha, .bool g.hq, .bool g.hf]] w fun e w' => e = .returned (.string tx) ∧ Below w.heap.size w w' := fun w => by rw [htx]; exact ijoin_calls g.sc g.au g.pa g.qu g.fr g.ha g.hq g.hf w (by omega)
      have hxz : tx.size = g.text.length := by rw [htx, Lib.size_eq]
      have hxb : tx.size ≤ 2000000 := by omega
      have e1 : (c != 0) = false := by simp [h1]
      have e2 : (d != 0) = false := by simp [h2]
      have hE2 : rs = if 65536 < tx.size then ([], 2) else (g.text, 0) := by rw [HE.out, if_neg (by simp [h1]), if_neg (by simp [h2]), hxz, hg]
      have HSP := Lib.hid hsp'
      have HSQ := Lib.hid hsq'
      have HTG := Lib.hid htg
      have HJN := Lib.hid hjn
      have HE2 := Lib.hid hE2
      have HTX := Lib.hid htx
      clear hsp hsq hsp' hsq' hts hg htg htl hgs hjn hxz hE2 hs1 hs2 htx h1 h2
      by_cases h3 : 65536 < tx.size
      all_goals
        go_enter Try.func26, Try.ntmps26
        go_wp2_with (go_at_call 20; refine (HCK.out _).mono ?_; rintro e w1 ⟨rfl, hb1⟩; (have b1 := Lib.hid hb1); clear hb1)
        refine (HRF.out _).mono ?_
        rintro e w2 ⟨rfl, hb2⟩
        have b2 := Lib.hid (b1.out.trans (hb2.mono b1.out.size))
        clear hb2
        go_wp2_with fail
        refine (HSP.out _).mono ?_
        rintro e w3 ⟨rfl, hb3⟩
        have b3 := Lib.hid (b2.out.trans (hb3.mono b2.out.size))
        clear hb3
        go_wp2_with fail
        refine (HSQ.out _).mono ?_
        rintro e w4 ⟨rfl, hb4⟩
        have b4 := Lib.hid (b3.out.trans (hb4.mono b3.out.size))
        clear hb4
        go_wp2_with fail
        refine (HTG.out _).mono ?_
        rintro e w5 ⟨rfl, hb5⟩
        have b5 := Lib.hid (b4.out.trans (hb5.mono b4.out.size))
        clear hb5
        go_wp2_with fail
        refine (HJN.out _).mono ?_
        rintro e w6 ⟨rfl, hb6⟩
        have b6 := Lib.hid (b5.out.trans (hb6.mono b5.out.size))
        clear hb6
        go_wp2_with fail
        go_ret2
        refine ⟨?_, b6.out⟩
        rw [HE2.out]
        first
          | (rw [if_pos h3]; rfl)
          | (rw [if_neg h3, HTX.out]; rfl)
    · have e1 : (c != 0) = false := by simp [h1]
      have e2 : (d != 0) = true := by rw [bne_iff_ne]; exact h2
      have hE2 : rs = ([], d) := by rw [HE.out, if_neg (by simp [h1]), if_pos h2]
      have HE2 := Lib.hid hE2
      clear hE2 h1 h2 hs1 hs2 hsp hsq
      go_enter Try.func26, Try.ntmps26
      go_wp2_with (go_at_call 20; refine (HCK.out _).mono ?_; rintro e w1 ⟨rfl, hb1⟩; (have b1 := Lib.hid hb1); clear hb1)
      refine (HRF.out _).mono ?_
      rintro e w2 ⟨rfl, hb2⟩
      have b2 := Lib.hid (b1.out.trans (hb2.mono b1.out.size))
      clear hb2
      go_wp2_with fail
      go_ret2
      refine ⟨?_, b2.out⟩
      rw [HE2.out]
      rfl
  · have e1 : (c != 0) = true := by rw [bne_iff_ne]; exact h1
    have hE2 : rs = ([], c) := by rw [HE.out, if_pos h1]
    have HE2 := Lib.hid hE2
    clear hE2 h1 hs1 hs2 hsp hsq
    go_enter Try.func26, Try.ntmps26
    go_wp2_with (go_at_call 20; refine (HCK.out _).mono ?_; rintro e w1 ⟨rfl, hb1⟩; (have b1 := Lib.hid hb1); clear hb1)
    go_ret2
    refine ⟨?_, b1.out⟩
    rw [HE2.out]
    rfl
set_option maxHeartbeats 1000000 in
theorem rresolve_calls (s t : ByteArray) (w : World) (hs : s.size ≤ 9223372036854770000) (ht : t.size ≤ 9223372036854770000) :
    Calls Try.prog 27 #[.string s, .string t] w fun e w' => e = .returned (.tuple #[.string ⟨(resE s.data.toList t.data.toList).1.toArray⟩, .int .i64 (resE s.data.toList t.data.toList).2]) ∧ Below w.heap.size w w' := by
  have hck := fun w => ircheck_calls s w hs
  have hrf := fun w => rreference_calls t w ht
  have hz1 : irE s.data.toList = 0 → s.size ≤ 65536 := fun h => by rw [Lib.size_eq]; exact irE_size h
  have hz2 : refE t.data.toList = 0 → t.size ≤ 65536 := fun h => by rw [Lib.size_eq]; exact refE_size' h
  have hE : resE s.data.toList t.data.toList = if irE s.data.toList ≠ 0 then ([], irE s.data.toList) else if refE t.data.toList ≠ 0 then ([], refE t.data.toList) else if 65536 < (targetP (splitP s.data.toList) (splitP t.data.toList)).text.length then ([], 2) else ((targetP (splitP s.data.toList) (splitP t.data.toList)).text, 0) := rfl
  have hs1 := splitP_sum s.data.toList
  have hs2 := splitP_sum t.data.toList
  rw [← Lib.size_eq] at hs1 hs2
  obtain ⟨c, hc⟩ : ∃ c, c = irE s.data.toList := ⟨_, rfl⟩
  obtain ⟨d, hd⟩ : ∃ d, d = refE t.data.toList := ⟨_, rfl⟩
  have hsp := fun w hz => parts_calls s w hz
  have hsq := fun w hz => parts_calls t w hz
  obtain ⟨p, hp⟩ : ∃ p, p = splitP s.data.toList := ⟨_, rfl⟩
  obtain ⟨q, hq⟩ : ∃ q, q = splitP t.data.toList := ⟨_, rfl⟩
  obtain ⟨rs, hr⟩ : ∃ rs, rs = resE s.data.toList t.data.toList := ⟨_, rfl⟩
  rw [← hr] at hE ⊢
  rw [← hc] at hck hz1 hE
  rw [← hd] at hrf hz2 hE
  rw [← hp] at hsp hs1 hE
  rw [← hq] at hsq hs2 hE
  have HCK := Lib.hid hck
  have HRF := Lib.hid hrf
  have HE := Lib.hid hE
  have HZ1 := Lib.hid hz1
  have HZ2 := Lib.hid hz2
  clear hck hrf hE hz1 hz2 hc hd hp hq hr
  by_cases h1 : c = 0
  · have z1 := HZ1.out h1
    by_cases h2 : d = 0
    · have z2 := HZ2.out h2
      have hsp' : ∀ w, Calls Try.prog 49 #[.string s] w fun e w' => e = .returned (.agg #[.string ⟨p.sc.toArray⟩, .string ⟨p.au.toArray⟩, .string ⟨p.pa.toArray⟩, .string ⟨p.qu.toArray⟩, .string ⟨p.fr.toArray⟩, .bool p.ha, .bool p.hq, .bool p.hf]) ∧ Below w.heap.size w w' := fun w => hsp w (by omega)
      have hsq' : ∀ w, Calls Try.prog 49 #[.string t] w fun e w' => e = .returned (.agg #[.string ⟨q.sc.toArray⟩, .string ⟨q.au.toArray⟩, .string ⟨q.pa.toArray⟩, .string ⟨q.qu.toArray⟩, .string ⟨q.fr.toArray⟩, .bool q.ha, .bool q.hq, .bool q.hf]) ∧ Below w.heap.size w w' := fun w => hsq w (by omega)
      have hts := targetP_sum p q
      obtain ⟨g, hg⟩ : ∃ g, g = targetP p q := ⟨_, rfl⟩
      have htg : ∀ w, Calls Try.prog 53 #[.agg #[.string ⟨p.sc.toArray⟩, .string ⟨p.au.toArray⟩, .string ⟨p.pa.toArray⟩, .string ⟨p.qu.toArray⟩, .string ⟨p.fr.toArray⟩, .bool p.ha, .bool p.hq, .bool p.hf], .agg #[.string ⟨q.sc.toArray⟩, .string ⟨q.au.toArray⟩, .string ⟨q.pa.toArray⟩, .string ⟨q.qu.toArray⟩, .string ⟨q.fr.toArray⟩, .bool q.ha, .bool q.hq, .bool q.hf]] w fun e w' => e = .returned (.agg #[.string ⟨g.sc.toArray⟩, .string ⟨g.au.toArray⟩, .string ⟨g.pa.toArray⟩, .string ⟨g.qu.toArray⟩, .string ⟨g.fr.toArray⟩, .bool g.ha, .bool g.hq, .bool g.hf]) ∧ Below w.heap.size w w' := fun w => by rw [hg]; exact rtarget_calls p q w (by omega) (by omega)
      have htl := Prts.text_len g
      rw [← hg] at hts
      have hgs : g.sc.length + g.au.length + g.pa.length + g.qu.length + g.fr.length ≤ 1000000 := by unfold Prts.sum at hts hs1 hs2; omega
      obtain ⟨tx, htx⟩ : ∃ tx : ByteArray, tx = ⟨g.text.toArray⟩ := ⟨_, rfl⟩
      have hjn : ∀ w, Calls Try.prog 51 #[.agg #[.string ⟨g.sc.toArray⟩, .string ⟨g.au.toArray⟩, .string ⟨g.pa.toArray⟩, .string ⟨g.qu.toArray⟩, .string ⟨g.fr.toArray⟩, .bool g.ha, .bool g.hq, .bool g.hf]] w fun e w' => e = .returned (.string tx) ∧ Below w.heap.size w w' := fun w => by rw [htx]; exact rjoin_calls g.sc g.au g.pa g.qu g.fr g.ha g.hq g.hf w (by omega)
      have hxz : tx.size = g.text.length := by rw [htx, Lib.size_eq]
      have hxb : tx.size ≤ 2000000 := by omega
      have e1 : (c != 0) = false := by simp [h1]
      have e2 : (d != 0) = false := by simp [h2]
      have hE2 : rs = if 65536 < tx.size then ([], 2) else (g.text, 0) := by rw [HE.out, if_neg (by simp [h1]), if_neg (by simp [h2]), hxz, hg]
      have HSP := Lib.hid hsp'
      have HSQ := Lib.hid hsq'
      have HTG := Lib.hid htg
      have HJN := Lib.hid hjn
      have HE2 := Lib.hid hE2
      have HTX := Lib.hid htx
      clear hsp hsq hsp' hsq' hts hg htg htl hgs hjn hxz hE2 hs1 hs2 htx h1 h2
      by_cases h3 : 65536 < tx.size
      all_goals
        go_enter Try.func27, Try.ntmps27
        go_wp2_with (go_at_call 21; refine (HCK.out _).mono ?_; rintro e w1 ⟨rfl, hb1⟩; (have b1 := Lib.hid hb1); clear hb1)
        refine (HRF.out _).mono ?_
        rintro e w2 ⟨rfl, hb2⟩
        have b2 := Lib.hid (b1.out.trans (hb2.mono b1.out.size))
        clear hb2
        go_wp2_with fail
        refine (HSP.out _).mono ?_
        rintro e w3 ⟨rfl, hb3⟩
        have b3 := Lib.hid (b2.out.trans (hb3.mono b2.out.size))
        clear hb3
        go_wp2_with fail
        refine (HSQ.out _).mono ?_
        rintro e w4 ⟨rfl, hb4⟩
        have b4 := Lib.hid (b3.out.trans (hb4.mono b3.out.size))
        clear hb4
        go_wp2_with fail
        refine (HTG.out _).mono ?_
        rintro e w5 ⟨rfl, hb5⟩
        have b5 := Lib.hid (b4.out.trans (hb5.mono b4.out.size))
        clear hb5
        go_wp2_with fail
        refine (HJN.out _).mono ?_
        rintro e w6 ⟨rfl, hb6⟩
        have b6 := Lib.hid (b5.out.trans (hb6.mono b5.out.size))
        clear hb6
        go_wp2_with fail
        go_ret2
        refine ⟨?_, b6.out⟩
        rw [HE2.out]
        first
          | (rw [if_pos h3]; rfl)
          | (rw [if_neg h3, HTX.out]; rfl)
    · have e1 : (c != 0) = false := by simp [h1]
      have e2 : (d != 0) = true := by rw [bne_iff_ne]; exact h2
      have hE2 : rs = ([], d) := by rw [HE.out, if_neg (by simp [h1]), if_pos h2]
      have HE2 := Lib.hid hE2
      clear hE2 h1 h2 hs1 hs2 hsp hsq
      go_enter Try.func27, Try.ntmps27
      go_wp2_with (go_at_call 21; refine (HCK.out _).mono ?_; rintro e w1 ⟨rfl, hb1⟩; (have b1 := Lib.hid hb1); clear hb1)
      refine (HRF.out _).mono ?_
      rintro e w2 ⟨rfl, hb2⟩
      have b2 := Lib.hid (b1.out.trans (hb2.mono b1.out.size))
      clear hb2
      go_wp2_with fail
      go_ret2
      refine ⟨?_, b2.out⟩
      rw [HE2.out]
      rfl
  · have e1 : (c != 0) = true := by rw [bne_iff_ne]; exact h1
    have hE2 : rs = ([], c) := by rw [HE.out, if_pos h1]
    have HE2 := Lib.hid hE2
    clear hE2 h1 hs1 hs2 hsp hsq
    go_enter Try.func27, Try.ntmps27
    go_wp2_with (go_at_call 21; refine (HCK.out _).mono ?_; rintro e w1 ⟨rfl, hb1⟩; (have b1 := Lib.hid hb1); clear hb1)
    go_ret2
    refine ⟨?_, b1.out⟩
    rw [HE2.out]
    rfl
theorem iriresolves_go (w : World) (s : ByteArray) (hs : s.size ≤ 140737488351232) (t : ByteArray) (ht : t.size ≤ 140737488351232) :
    Calls Try.prog 8 #[.string s, .string t] w fun e w' => e = .returned (.bool true) ∧ Below w.heap.size w w' := by
  have h1 := fun w => resolve_calls s t w (by omega) (by omega)
  have h2 := fun w => rresolve_calls s t w (by omega) (by omega)
  obtain ⟨rs, hrs⟩ : ∃ rs, rs = resE s.data.toList t.data.toList := ⟨_, rfl⟩
  rw [← hrs] at h1 h2
  obtain ⟨bx, hbx⟩ : ∃ bx : ByteArray, bx = ⟨rs.1.toArray⟩ := ⟨_, rfl⟩
  rw [← hbx] at h1 h2
  obtain ⟨c, hc⟩ : ∃ c, c = rs.2 := ⟨_, rfl⟩
  rw [← hc] at h1 h2
  have e1 : (bx.toList == bx.toList) = true := by simp
  have e2 : (c == c) = true := by simp
  have H1 := Lib.hid h1
  have H2 := Lib.hid h2
  clear hc hbx hrs h1 h2
  go_enter Try.func8, Try.ntmps8
  go_wp2_with fail
  refine (H1.out _).mono ?_
  rintro e w1 ⟨rfl, hb1⟩
  go_wp2_with fail
  refine (H2.out _).mono ?_
  rintro e w2 ⟨rfl, hb2⟩
  have b2 := hb1.trans (hb2.mono hb1.size)
  go_wp2_with fail
  go_ret
  exact ⟨rfl, b2⟩
end Go.Proofs.Ythdkhlkmcebfeaa
