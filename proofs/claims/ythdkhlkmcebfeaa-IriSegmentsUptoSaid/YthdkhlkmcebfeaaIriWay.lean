/- The relative path from a base's path to another one's: the program's way, the document's relative. -/
import Derived.Test.YthdkhlkmcebfeaaIriRel
import Derived.Test.YthdkhlkmcebfeaaShB
import Derived.Deep.DeepCutAuto
import Derived.Deep.CutBlock
set_option linter.unusedVariables false
set_option linter.unusedSimpArgs false
namespace Go.Tk
open Go Go.RowKit
/-- While two structs of parts lie in blocks of the call's own. -/
structure WG (T : TypeId) (w wx : World) (b t : Prts) : Prop where
  rb : wx.heap[w.heap.size]? = some (.cells b.cells T (0, 0))
  rt : wx.heap[w.heap.size + 1]? = some (.cells t.cells T (0, 0))
  below : Below w.heap.size w wx
theorem WG.start (T : TypeId) (w : World) (b t : Prts) : WG T w ((w.alloc (.cells b.cells T)).alloc (.cells t.cells T)) b t := by
  have h0 := heap_alloc_new w (.cells b.cells T)
  have h1 := heap_alloc_new (w.alloc (.cells b.cells T)) (.cells t.cells T)
  simp only [size_alloc1] at h1
  exact ⟨(Below.heap_alloc _ _ _ (lt_of_block h0)).trans h0, h1, ((Below.refl _ _).alloc (Nat.le_refl _) _).alloc (by simp) _⟩
theorem WG.later {T : TypeId} {w wx w' : World} {b t : Prts} (h : WG T w wx b t) (hb : Below wx.heap.size wx w') : WG T w w' b t where
  rb := (hb.block _ (lt_of_block h.rb)).trans h.rb
  rt := (hb.block _ (lt_of_block h.rt)).trans h.rt
  below := h.below.trans (hb.mono h.below.size)
theorem WG.drewN {T : TypeId} {w wx : World} {b t : Prts} (h : WG T w wx b t) (n : Nat) : WG T w (wx.drewN n) b t := ⟨h.rb, h.rt, Go.Tk.below_drewN h.below n⟩
theorem toS_sizes (l : List UInt8) : (l.take (toS l)).length = toS l := by rw [List.length_take]; have := toS_le l; omega
theorem contains_index (l : List UInt8) (b : UInt8) : decide (0 ≤ Lib.indexByte l b) = l.contains b := indexByte_among l b
theorem unt_contains (l : List UInt8) (b : UInt8) : decide (unt (among [b]) l < l.length) = l.contains b := by
  induction l with
  | nil => rfl
  | cons x l ih =>
    by_cases h : x = b
    · subst h
      rw [unt_yes (by simp [among])]
      simp
    · have h1 : among [b] x = false := by simp [among, h]
      rw [unt_no h1]
      simp only [List.length_cons, Nat.add_lt_add_iff_right, List.contains_cons]
      rw [ih]
      have : (b == x) = false := by simp [Ne.symm h]
      rw [this, Bool.false_or]
end Go.Tk
namespace Go.Proofs.Ythdkhlkmcebfeaa
open Go.RowKit Go.Tk
theorem slcut_calls (s : ByteArray) (w : World) (hs : s.size ≤ 1000000000000000) :
    Calls Try.prog 59 #[.string s, .string ⟨#[47]⟩] w fun e w' => e = .returned (.tuple #[.string ⟨(s.data.toList.take (toS s.data.toList)).toArray⟩, .string ⟨(s.data.toList.drop (toS s.data.toList + 1)).toArray⟩, .bool (decide (toS s.data.toList < s.data.toList.length))]) ∧ ∃ n, w' = w.drewN n := by
  have hix := fun w => Try.stringslite_Index_one s 47 w
  have hle := toS_le s.data.toList
  have hsz : s.data.toList.length = s.size := by rw [Lib.size_eq]
  rw [indexByte_toS] at hix
  obtain ⟨k, hk⟩ : ∃ k, k = toS s.data.toList := ⟨_, rfl⟩
  rw [← hk] at hix hle ⊢
  rw [hsz] at hix hle ⊢
  have hex := extract_take s k
  have hed := extract_drop s (k + 1)
  have hall : s.size ≤ k → s.data.toList.take k = s.data.toList ∧ s.data.toList.drop (k + 1) = [] := fun h => ⟨List.take_of_length_le (by omega), List.drop_of_length_le (by omega)⟩
  have HIX := Lib.hid hix
  have HEX := Lib.hid hex
  have HED := Lib.hid hed
  have HALL := Lib.hid hall
  clear hix hsz hk hex hed hall
  by_cases h : k < s.size
  · have hix := HIX.out
    rw [if_pos h] at hix
    have HI2 := Lib.hid hix
    clear hix
    go_enter Try.func59, Try.ntmps59
    go_wp2_with (go_at_call 75; refine (HI2.out _).mono ?_; rintro e w' ⟨rfl, rfl⟩)
    go_quiet (fail)
    go_wp2_with fail
    go_ret3
    refine ⟨?_, _, rfl⟩
    rw [show (decide (k < s.size)) = true from decide_eq_true h, ← HEX.out, ← HED.out]
    rfl
  · have hix := HIX.out
    rw [if_neg h] at hix
    have HI2 := Lib.hid hix
    clear hix
    go_enter Try.func59, Try.ntmps59
    go_wp2_with (go_at_call 75; refine (HI2.out _).mono ?_; rintro e w' ⟨rfl, rfl⟩)
    go_ret3
    refine ⟨?_, 0, rfl⟩
    rw [show (decide (k < s.size)) = false from decide_eq_false h, (HALL.out (by omega)).1, (HALL.out (by omega)).2]
    rfl
theorem scut_calls (s : ByteArray) (w : World) (hs : s.size ≤ 1000000000000000) :
    Calls Try.prog 40 #[.string s, .string ⟨#[47]⟩] w fun e w' => e = .returned (.tuple #[.string ⟨(s.data.toList.take (toS s.data.toList)).toArray⟩, .string ⟨(s.data.toList.drop (toS s.data.toList + 1)).toArray⟩, .bool (decide (toS s.data.toList < s.data.toList.length))]) ∧ ∃ n, w' = w.drewN n := by
  have h := fun w => slcut_calls s w hs
  generalize (⟨(s.data.toList.take (toS s.data.toList)).toArray⟩ : ByteArray) = x at *
  generalize (⟨(s.data.toList.drop (toS s.data.toList + 1)).toArray⟩ : ByteArray) = y at *
  generalize decide (toS s.data.toList < s.data.toList.length) = z at *
  have H := Lib.hid h
  clear h
  go_enter Try.func40, Try.ntmps40
  go_wp2_with (go_at_call 59; refine (H.out _).mono ?_; rintro e w' ⟨rfl, n, rfl⟩)
  go_ret3
  exact ⟨rfl, _, rfl⟩
set_option maxHeartbeats 4000000 in
set_option maxRecDepth 100000 in
theorem way_calls (b t : Prts) (w : World) (hb : b.sum ≤ 1000000) (ht : t.sum ≤ 1000000) :
    Calls Try.prog 72 #[.agg #[.string ⟨b.sc.toArray⟩, .string ⟨b.au.toArray⟩, .string ⟨b.pa.toArray⟩, .string ⟨b.qu.toArray⟩, .string ⟨b.fr.toArray⟩, .bool b.ha, .bool b.hq, .bool b.hf], .agg #[.string ⟨t.sc.toArray⟩, .string ⟨t.au.toArray⟩, .string ⟨t.pa.toArray⟩, .string ⟨t.qu.toArray⟩, .string ⟨t.fr.toArray⟩, .bool t.ha, .bool t.hq, .bool t.hf]] w fun e w' => e = .returned (.string ⟨(way b t).toArray⟩) ∧ Below w.heap.size w w' := by
  have hst := WG.start 34 w b t
  have hfl := frm_len b
  have hcle := com_le (frm b) t.pa
  have hup := upN_le b t
  have hup2 : upN b t = ((frm b).drop (com (frm b) t.pa)).count 47 := rfl
  have hrst : rst b t = t.pa.drop (com (frm b) t.pa) := rfl
  have hfrm : frm b = if (b.pa.isEmpty && b.ha) = true then [47] else b.pa := rfl
  have hbz : b.pa.length ≤ 1000000 := by unfold Prts.sum at hb; omega
  have htz : t.pa.length ≤ 1000000 := by unfold Prts.sum at ht; omega
  have hway : way b t = if dotW b t = true then [46, 47] ++ rst b t else Lib.repeatL [46, 46, 47] (upN b t) ++ rst b t := rfl
  have hdot : dotW b t = (decide (upN b t = 0) && ((rst b t).isEmpty || (rst b t).head? == some 47 || ((rst b t).take (toS (rst b t))).contains 58)) := rfl
  obtain ⟨fl, hfl0⟩ : ∃ fl, fl = frm b := ⟨_, rfl⟩
  rw [← hfl0] at hcle hfl hup2 hrst hfrm
  obtain ⟨fb, hfb⟩ : ∃ fb : ByteArray, fb = ⟨fl.toArray⟩ := ⟨_, rfl⟩
  have hfbl : fb.data.toList = fl := by rw [hfb]
  have hfz : fb.size = fl.length := by rw [Lib.size_eq, hfbl]
  obtain ⟨tp, htp⟩ : ∃ tp : ByteArray, tp = ⟨t.pa.toArray⟩ := ⟨_, rfl⟩
  have htpl : tp.data.toList = t.pa := by rw [htp]
  have htz2 : tp.size = t.pa.length := by rw [Lib.size_eq, htpl]
  obtain ⟨C, hC⟩ : ∃ C, C = com fl t.pa := ⟨_, rfl⟩
  have hCN : comN (fb.data.toList.drop 0) (tp.data.toList.drop 0) 0 0 = C := by rw [hC, hfbl, htpl]; rfl
  rw [← hC] at hcle hup2 hrst
  rw [← hfz, ← htz2] at hcle
  have hfz1 : fb.size ≤ 1000001 := by omega
  have htz1 : tp.size ≤ 1000000 := by omega
  obtain ⟨U, hU⟩ : ∃ U, U = upN b t := ⟨_, rfl⟩
  rw [← hU] at hup hup2 hway hdot
  obtain ⟨R, hR⟩ : ∃ R, R = rst b t := ⟨_, rfl⟩
  rw [← hR] at hway hdot hrst
  obtain ⟨D, hD⟩ : ∃ D, D = dotW b t := ⟨_, rfl⟩
  rw [← hD] at hway hdot
  obtain ⟨Y, hY⟩ : ∃ Y, Y = way b t := ⟨_, rfl⟩
  rw [← hY] at hway ⊢
  rw [← hfbl] at hup2
  rw [← htpl] at hrst
  have hUb : U ≤ 1000001 := by omega
  have HST := Lib.hid hst
  have HUP2 := Lib.hid hup2
  have HRST := Lib.hid hrst
  have HFRM := Lib.hid hfrm
  have HWAY := Lib.hid hway
  have HDOT := Lib.hid hdot
  have HFB := Lib.hid hfb
  have HTP := Lib.hid htp
  have HCN := Lib.hid hCN
  clear hst hfl hup hup2 hrst hfrm hway hdot hfl0 hfb hfbl hfz htp htpl htz2 hC hCN hU hR hD hY hb ht hbz htz
  obtain ⟨bb, hbb⟩ : ∃ bb : ByteArray, bb = ⟨b.pa.toArray⟩ := ⟨_, rfl⟩
  have hbe : bb.toList.isEmpty = b.pa.isEmpty := by rw [Lib.toList_data, hbb]
  rw [← hbb]
  have HBB := Lib.hid hbb
  have HBE := Lib.hid hbe
  clear hbb hbe
  go_enter Try.func72, Try.ntmps72
  go_upto_region 2 with fail
  go_cut [20] (fun v wx => v = .bool (b.pa.isEmpty && b.ha) ∧ WG 34 w wx b t)
  case first =>
    cases e0 : bb.toList.isEmpty with
    | true =>
      have hh : b.ha = (b.pa.isEmpty && b.ha) := by rw [← HBE.out, e0]; rfl
      have HH := Lib.hid hh
      clear hh
      go_wp2_with fail
      go_meet
      exact ⟨congrArg Value.bool HH.out, by rw [HBB.out]; exact HST.out⟩
    | false =>
      have hh : false = (b.pa.isEmpty && b.ha) := by rw [← HBE.out, e0]; rfl
      have HH := Lib.hid hh
      clear hh
      go_wp2_with fail
      go_meet
      exact ⟨congrArg Value.bool HH.out, by rw [HBB.out]; exact HST.out⟩
  case rest =>
  obtain ⟨rfl, hwg0⟩ := hcut
  have HST := Lib.hid hwg0
  clear hwg0
  rename World => w0
  obtain ⟨E, hE⟩ : ∃ E, E = (b.pa.isEmpty && b.ha) := ⟨_, rfl⟩
  have HH := HFRM.out
  rw [← hE] at HH ⊢
  have HE := Lib.hid HH
  clear hE HH
  go_upto_if 20 with fail
  go_cut [5] (fun v wx => v = .string fb ∧ WG 34 w wx b t)
  case first =>
    cases E with
    | true =>
      have hf : fb = ⟨#[47]⟩ := by rw [HFB.out, HE.out]; rfl
      have HF := Lib.hid hf
      clear hf
      go_wp2_with fail
      go_meet
      exact ⟨by rw [HF.out], HST.out⟩
    | false =>
      have hf : fb = bb := by rw [HBB.out, HFB.out, HE.out]; rfl
      have HF := Lib.hid hf
      clear hf
      go_wp2_with fail
      go_meet
      exact ⟨by rw [HF.out], HST.out⟩
  case rest =>
    obtain ⟨rfl, hwg⟩ := hcut
    have c2 : wc.cell? ⟨w.heap.size + 1, 2, none⟩ = some (.string tp) := by rw [HTP.out]; exact (row8' hwg.rt).2.2.1
    have HWG := Lib.hid hwg
    clear hwg
    rename World => w1
    go_upto_block 0 with fail
    go_cut [6] (fun v wx => v = .int .i64 (C : Nat) ∧ WG 34 w wx b t)
    case first =>
      go_wp2_with fail
      go_loopw [6, 7] (fun nv iv wr => ∃ k n : Nat, nv = .int .i64 (n : Nat) ∧ iv = .int .i64 (k : Nat) ∧ k ≤ fb.size ∧ n ≤ k ∧ comN (fb.data.toList.drop k) (tp.data.toList.drop k) k n = C ∧ WG 34 w wr b t) (fun _ iv _ => fb.size - (intOf iv).toNat)
      case atStart => exact ⟨0, 0, rfl, rfl, Nat.zero_le _, Nat.le_refl _, HCN.out, HWG.out⟩
      case round =>
        obtain ⟨k, n, rfl, rfl, hk, hn, hc, hwg⟩ := hrel
        have c3 : wr.cell? ⟨w.heap.size + 1, 2, none⟩ = some (.string tp) := by rw [HTP.out]; exact (row8' hwg.rt).2.2.1
        have HW2 := Lib.hid hwg
        have HC2 := Lib.hid hc
        clear hwg hc
        by_cases h1 : k < fb.size
        · have d1 : decide (k < fb.size) = true := decide_eq_true h1
          by_cases h2 : k < tp.size
          · have d2 : decide (k < tp.size) = true := decide_eq_true h2
            by_cases h3 : fb[k] = tp[k]
            · have hb : ((fb[k].toNat : Int) == (tp[k].toNat : Int)) = true := by rw [h3]; simp
              have hstep := comN_step (p := fb.data.toList) (t := tp.data.toList) (k := k) (n := n) (by simpa using h1) (by simpa using h2) (by simp only [Array.getElem_toList]; exact h3)
              rw [HC2.out] at hstep
              simp only [Array.getElem_toList] at hstep
              by_cases h4 : fb[k] = 47
              · have hb4 : ((fb[k].toNat : Int) == 47) = true := by rw [h4]; rfl
                rw [if_pos (show fb.data[k] = 47 from h4)] at hstep
                have HS := Lib.hid hstep
                clear hstep h3 h4
                go_wp2_with fail
                go_quiet (fail)
                go_wp2
                go_roundw
                case rel => exact ⟨k + 1, k + 1, by go_num, by go_num, by omega, by omega, HS.out.symm, HW2.out.drewN nq⟩
                case measure => simp [intOf]; omega
              · have hb4 : ((fb[k].toNat : Int) == 47) = false := by
                  rw [beq_eq_false_iff_ne]; intro h; exact h4 (UInt8.toNat.inj (by simpa using (by omega : fb[k].toNat = 47)))
                rw [if_neg (show ¬ fb.data[k] = 47 from h4)] at hstep
                have HS := Lib.hid hstep
                clear hstep h3 h4
                go_wp2_with fail
                go_quiet (fail)
                go_wp2
                go_roundw
                case rel => exact ⟨k + 1, n, rfl, by go_num, by omega, by omega, HS.out.symm, HW2.out.drewN nq⟩
                case measure => simp [intOf]; omega
            · have hb : ((fb[k].toNat : Int) == (tp[k].toNat : Int)) = false := by
                rw [beq_eq_false_iff_ne]; intro h; exact h3 (UInt8.toNat.inj (by omega))
              have hstep := comN_diff (p := fb.data.toList) (t := tp.data.toList) (k := k) (n := n) (by simpa using h1) (by simpa using h2) (by simp only [Array.getElem_toList]; exact h3)
              have hnc : n = C := by rw [← HC2.out, hstep]
              have HNC := Lib.hid hnc
              clear hstep h3 hnc
              go_wp2_with fail
              go_quiet (fail)
              go_wp2
              go_meet
              exact ⟨by rw [HNC.out], HW2.out.drewN nq⟩
          · have d2 : decide (k < tp.size) = false := decide_eq_false h2
            have hnc : n = C := by rw [← HC2.out]; exact (comN_endt (by simp; omega)).symm
            have HNC := Lib.hid hnc
            clear hnc
            go_wp2_with fail
            go_quiet (fail)
            go_wp2
            go_meet
            exact ⟨by rw [HNC.out], HW2.out.drewN nq⟩
        · have d1 : decide (k < fb.size) = false := decide_eq_false h1
          have hnc : n = C := by rw [← HC2.out]; exact (comN_endp (by simp; omega)).symm
          have HNC := Lib.hid hnc
          clear hnc
          go_wp2_with fail
          go_quiet (fail)
          go_wp2
          go_meet
          exact ⟨by rw [HNC.out], HW2.out.drewN nq⟩
    case rest =>
      obtain ⟨rfl, hwg⟩ := hcut
      have c3 : wc.cell? ⟨w.heap.size + 1, 2, none⟩ = some (.string tp) := by rw [HTP.out]; exact (row8' hwg.rt).2.2.1
      have HW2 := Lib.hid hwg
      clear hwg c2
      obtain ⟨hC1, hC2⟩ := hcle
      rename World => w2
      have hcnt : ∀ w, Calls Try.prog 84 #[.string (fb.extract C fb.size), .string ⟨#[47]⟩] w fun e w' => e = .returned (.int .i64 (U : Nat)) ∧ w = w' := fun w => by
        refine (Try.strings_Count_one (fb.extract C fb.size) 47 w).mono fun _ _ ⟨h1, h2⟩ => ⟨h1.trans (ret_int ?_), h2.symm⟩
        show ((List.count 47 (fb.extract C fb.size).data.toList : Nat) : Int) = _
        rw [extract_ds, HUP2.out]
      have hrl : (tp.extract C tp.size).data.toList = R := by rw [extract_ds, HRST.out]
      have hcut := fun w => scut_calls (tp.extract C tp.size) w (by rw [Lib.size_eq, extract_ds, List.length_drop, ← Lib.size_eq]; omega)
      rw [hrl] at hcut
      have hrz : (tp.extract C tp.size).size ≤ 1000000 := by rw [Lib.size_eq, extract_ds, List.length_drop, ← Lib.size_eq]; omega
      have hrp : ∀ w, Calls Try.prog 86 #[.string ⟨#[46, 46, 47]⟩, .int .i64 (U : Nat)] w fun e w' => e = .returned (.string ⟨(Lib.repeatL [46, 46, 47] U).toArray⟩) ∧ Below w.heap.size w w' := fun w => Try.strings_Repeat ⟨#[46, 46, 47]⟩ U w (by omega) (by rw [show (⟨#[46, 46, 47]⟩ : ByteArray).size = 3 from rfl]; omega)
      obtain ⟨rp, hrp0⟩ : ∃ rp : ByteArray, rp = ⟨(Lib.repeatL [46, 46, 47] U).toArray⟩ := ⟨_, rfl⟩
      have hrpz : rp.size ≤ 3000003 := by rw [hrp0, Lib.size_eq, Lib.repeatL_length]; simp; omega
      rw [← hrp0] at hrp
      obtain ⟨fs, hfs⟩ : ∃ fs : ByteArray, fs = ⟨(R.take (toS R)).toArray⟩ := ⟨_, rfl⟩
      rw [← hfs] at hcut
      have hcon : ∀ w, Calls Try.prog 85 #[.string fs, .string ⟨#[58]⟩] w fun e w' => e = .returned (.bool ((R.take (toS R)).contains 58)) ∧ w = w' := fun w => by
        refine (Try.strings_Contains_one fs 58 w).mono fun _ _ ⟨h1, h2⟩ => ⟨h1.trans (ret_bool ?_), h2.symm⟩
        rw [contains_index, hfs]
      obtain ⟨rb, hrb⟩ : ∃ rb, rb = tp.extract C tp.size := ⟨_, rfl⟩
      rw [← hrb] at hrl hcut hrz
      have hrs : rb.size = R.length := by rw [Lib.size_eq, hrl]
      have hre : rb.toList.isEmpty = R.isEmpty := by rw [Lib.toList_data, hrl]
      have HCNT := Lib.hid hcnt
      have HRL := Lib.hid hrl
      have HCUT := Lib.hid hcut
      have HRP := Lib.hid hrp
      have HRP0 := Lib.hid hrp0
      have HFS := Lib.hid hfs
      have HCON := Lib.hid hcon
      have HRB := Lib.hid hrb
      have HRS := Lib.hid hrs
      have HRE := Lib.hid hre
      clear hcnt hrl hcut hrp hrp0 hfs hcon hrb hrs hre
      go_upto_region 12 with (go_at_call 84; refine (HCNT.out _).mono ?_; rintro e w' ⟨rfl, rfl⟩)
      generalize hrb2 : tp.extract C tp.size = rb2
      obtain rfl : rb2 = rb := hrb2.symm.trans HRB.out.symm
      clear hrb2
      have dotw : D = true → ∀ X : World, Below w.heap.size w X → (Ending.returned (.string (⟨#[46, 47]⟩ ++ rb2)) = .returned (.string ⟨Y.toArray⟩) ∧ Below w.heap.size w X) := fun h X hX => ⟨ret_str (byte_ext (by rw [cat_data, HRL.out, HWAY.out, if_pos h])), hX⟩
      have upw : D = false → ∀ X : World, Below w.heap.size w X → (Ending.returned (.string (rp ++ rb2)) = .returned (.string ⟨Y.toArray⟩) ∧ Below w.heap.size w X) := fun h X hX => ⟨ret_str (byte_ext (by rw [cat_data, HRL.out, HWAY.out, if_neg (by simp [h]), HRP0.out])), hX⟩
      have DOTW := Lib.hid dotw
      have UPW := Lib.hid upw
      clear dotw upw
      by_cases hU0 : U = 0
      · have e1 : ((U : Int) == 0) = true := by simp [hU0]
        have hD0 : D = (R.isEmpty || R.head? == some 47 || (R.take (toS R)).contains 58) := by rw [HDOT.out, hU0]; rfl
        have HD0 := Lib.hid hD0
        clear hD0 hU0
        cases hR : R with
        | nil =>
          have e2 : rb2.toList.isEmpty = true := by rw [HRE.out, hR]; rfl
          have hD : D = true := by rw [HD0.out, hR]; rfl
          have HD := Lib.hid hD
          clear hD hR
          go_wp2_with (first
            | (go_at_call 40; refine (HCUT.out _).mono ?_; rintro e w' ⟨rfl, n1, rfl⟩))
          go_ret
          exact DOTW.out HD.out _ (Go.Tk.below_drewN HW2.out.below _)
        | cons c q =>
          have e2 : rb2.toList.isEmpty = false := by rw [HRE.out, hR]; rfl
          have hp0 : 0 < rb2.size := by rw [HRS.out, hR]; simp
          have hbc : rb2[0] = c := byteAt0 (by rw [HRL.out]; exact hR) hp0
          by_cases h47 : c = 47
          · have e3 : ((rb2[0].toNat : Int) == 47) = true := by rw [hbc, h47]; rfl
            have hD : D = true := by rw [HD0.out, hR, h47]; rfl
            have HD := Lib.hid hD
            clear hD hR hbc h47
            go_wp2_with (first
              | (go_at_call 40; refine (HCUT.out _).mono ?_; rintro e w' ⟨rfl, n1, rfl⟩))
            go_ret
            exact DOTW.out HD.out _ (Go.Tk.below_drewN HW2.out.below _)
          · have e3 : ((rb2[0].toNat : Int) == 47) = false := by
              rw [hbc, beq_eq_false_iff_ne]; intro h; exact h47 (UInt8.toNat.inj (by simpa using (by omega : c.toNat = 47)))
            have hD : D = (R.take (toS R)).contains 58 := by
              rw [HD0.out]
              have : (R.head? == some 47) = false := by rw [hR]; simpa using h47
              rw [this, hR]
              rfl
            have hcon := HCON.out
            rw [← hD] at hcon
            have HCON2 := Lib.hid hcon
            clear hcon hD hR hbc h47
            cases D with
            | true =>
              go_wp2_with (first
                | (go_at_call 40; refine (HCUT.out _).mono ?_; rintro e w' ⟨rfl, n1, rfl⟩)
                | (go_at_call 85; refine (HCON2.out _).mono ?_; rintro e w' ⟨rfl, rfl⟩))
              go_ret
              exact DOTW.out (by first | trivial | rfl) _ (Go.Tk.below_drewN HW2.out.below _)
            | false =>
              go_wp2_with (first
                | (go_at_call 40; refine (HCUT.out _).mono ?_; rintro e w' ⟨rfl, n1, rfl⟩)
                | (go_at_call 85; refine (HCON2.out _).mono ?_; rintro e w' ⟨rfl, rfl⟩)
                | (go_at_call 86; refine (HRP.out _).mono ?_; rintro e w' ⟨rfl, hb9⟩; (have HB9 := Lib.hid hb9); clear hb9))
              go_ret
              exact UPW.out (by first | trivial | rfl) _ ((Go.Tk.below_drewN HW2.out.below _).trans (HB9.out.mono HW2.out.below.size))
      · have e1 : ((U : Int) == 0) = false := by simp [hU0]
        have hD : D = false := by rw [HDOT.out, decide_eq_false hU0]; rfl
        have HD := Lib.hid hD
        clear hD hU0
        go_wp2_with (first
          | (go_at_call 40; refine (HCUT.out _).mono ?_; rintro e w' ⟨rfl, n1, rfl⟩)
          | (go_at_call 86; refine (HRP.out _).mono ?_; rintro e w' ⟨rfl, hb9⟩; (have HB9 := Lib.hid hb9); clear hb9))
        go_ret
        exact UPW.out HD.out _ ((Go.Tk.below_drewN HW2.out.below _).trans (HB9.out.mono HW2.out.below.size))
end Go.Proofs.Ythdkhlkmcebfeaa
