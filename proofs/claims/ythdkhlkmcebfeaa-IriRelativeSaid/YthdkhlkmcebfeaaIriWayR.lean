/- The document's relative. -/
import Derived.Test.YthdkhlkmcebfeaaIriWay
set_option linter.unusedVariables false
set_option linter.unusedSimpArgs false
namespace Go.Tk
open Go Go.RowKit
theorem WG.grown {T : TypeId} {w wx w' : World} {b t : Prts} {row : Option Nat} (h : WG T w wx b t) (hg : wx.grownBy w' row) (hr : ∀ x, row = some x → w.heap.size + 2 ≤ x) : WG T w w' b t where
  rb := (hg.block _ (lt_of_block h.rb) (fun e => by have := hr _ e.symm; omega)).trans h.rb
  rt := (hg.block _ (lt_of_block h.rt) (fun e => by have := hr _ e.symm; omega)).trans h.rt
  below := h.below.trans (below_of_grown hg h.below.size (fun k e => by have := hr k e; omega))
theorem repeatL_snoc (l : List UInt8) : ∀ j, Lib.repeatL l (j + 1) = Lib.repeatL l j ++ l
  | 0 => by simp [Lib.repeatL]
  | j + 1 => by
    have ih := repeatL_snoc l j
    show l ++ Lib.repeatL l (j + 1) = (l ++ Lib.repeatL l j) ++ l
    rw [ih, List.append_assoc]
end Go.Tk
namespace Go.Proofs.Ythdkhlkmcebfeaa
open Go.RowKit Go.Tk
set_option maxHeartbeats 4000000 in
set_option maxRecDepth 100000 in
theorem rway_calls (b t : Prts) (w : World) (hb : b.sum ≤ 1000000) (ht : t.sum ≤ 1000000) :
    Calls Try.prog 73 #[.agg #[.string ⟨b.sc.toArray⟩, .string ⟨b.au.toArray⟩, .string ⟨b.pa.toArray⟩, .string ⟨b.qu.toArray⟩, .string ⟨b.fr.toArray⟩, .bool b.ha, .bool b.hq, .bool b.hf], .agg #[.string ⟨t.sc.toArray⟩, .string ⟨t.au.toArray⟩, .string ⟨t.pa.toArray⟩, .string ⟨t.qu.toArray⟩, .string ⟨t.fr.toArray⟩, .bool t.ha, .bool t.hq, .bool t.hf]] w fun e w' => e = .returned (.string ⟨(way b t).toArray⟩) ∧ Below w.heap.size w w' := by
  have hst := WG.start 34 w b t
  have hfl := frm_len b
  have hcle := com_le (frm b) t.pa
  have hup := upN_le b t
  have hup2 : upN b t = ((frm b).drop (com (frm b) t.pa)).count 47 := rfl
  have hrst : rst b t = t.pa.drop (com (frm b) t.pa) := rfl
  have hfrm : frm b = if (b.pa.isEmpty && b.ha) = true then [47] else b.pa := rfl
  have hbz : b.pa.length ≤ 1000000 := by unfold Prts.sum at hb; omega
  have htz : t.pa.length ≤ 1000000 := by unfold Prts.sum at ht; omega
  have hway : way b t = if dotW b t = true then [46, 47] ++ rst b t else Lib.repeatL [46, 46, 47] (upN b t) ++ rst b t := rfl
  have hdot : dotW b t = (decide (upN b t = 0) && ((rst b t).isEmpty || (rst b t).head? == some 47 || ((rst b t).take (toS (rst b t))).contains 58)) := rfl
  obtain ⟨fl, hfl0⟩ : ∃ fl, fl = frm b := ⟨_, rfl⟩
  rw [← hfl0] at hcle hfl hup2 hrst hfrm
  obtain ⟨fb, hfb⟩ : ∃ fb : ByteArray, fb = ⟨fl.toArray⟩ := ⟨_, rfl⟩
  have hfbl : fb.data.toList = fl := by rw [hfb]
  have hfz : fb.size = fl.length := by rw [Lib.size_eq, hfbl]
  obtain ⟨tp, htp⟩ : ∃ tp : ByteArray, tp = ⟨t.pa.toArray⟩ := ⟨_, rfl⟩
  have htpl : tp.data.toList = t.pa := by rw [htp]
  have htz2 : tp.size = t.pa.length := by rw [Lib.size_eq, htpl]
  obtain ⟨C, hC⟩ : ∃ C, C = com fl t.pa := ⟨_, rfl⟩
  have hCN : comN (fb.data.toList.drop 0) (tp.data.toList.drop 0) 0 0 = C := by rw [hC, hfbl, htpl]; rfl
  rw [← hC] at hcle hup2 hrst
  rw [← hfz, ← htz2] at hcle
  have hfz1 : fb.size ≤ 1000001 := by omega
  have htz1 : tp.size ≤ 1000000 := by omega
  obtain ⟨U, hU⟩ : ∃ U, U = upN b t := ⟨_, rfl⟩
  rw [← hU] at hup hup2 hway hdot
  obtain ⟨R, hR⟩ : ∃ R, R = rst b t := ⟨_, rfl⟩
  rw [← hR] at hway hdot hrst
  obtain ⟨D, hD⟩ : ∃ D, D = dotW b t := ⟨_, rfl⟩
  rw [← hD] at hway hdot
  obtain ⟨Y, hY⟩ : ∃ Y, Y = way b t := ⟨_, rfl⟩
  rw [← hY] at hway ⊢
  rw [← hfbl] at hup2
  rw [← htpl] at hrst
  have hUb : U ≤ 1000001 := by omega
  have HST := Lib.hid hst
  have HUP2 := Lib.hid hup2
  have HRST := Lib.hid hrst
  have HFRM := Lib.hid hfrm
  have HWAY := Lib.hid hway
  have HDOT := Lib.hid hdot
  have HFB := Lib.hid hfb
  have HTP := Lib.hid htp
  have HCN := Lib.hid hCN
  clear hst hfl hup hup2 hrst hfrm hway hdot hfl0 hfb hfbl hfz htp htpl htz2 hC hCN hU hR hD hY hb ht hbz htz
  obtain ⟨bb, hbb⟩ : ∃ bb : ByteArray, bb = ⟨b.pa.toArray⟩ := ⟨_, rfl⟩
  have hbe : bb.toList.isEmpty = b.pa.isEmpty := by rw [Lib.toList_data, hbb]
  rw [← hbb]
  have HBB := Lib.hid hbb
  have HBE := Lib.hid hbe
  clear hbb hbe
  go_enter Try.func73, Try.ntmps73
  go_upto_region 2 with fail
  go_cut [19] (fun v wx => v = .bool (b.pa.isEmpty && b.ha) ∧ WG 34 w wx b t)
  case first =>
    cases e0 : bb.toList.isEmpty with
    | true =>
      have hh : b.ha = (b.pa.isEmpty && b.ha) := by rw [← HBE.out, e0]; rfl
      have HH := Lib.hid hh
      clear hh
      go_wp2_with fail
      go_meet
      exact ⟨congrArg Value.bool HH.out, by rw [HBB.out]; exact HST.out⟩
    | false =>
      have hh : false = (b.pa.isEmpty && b.ha) := by rw [← HBE.out, e0]; rfl
      have HH := Lib.hid hh
      clear hh
      go_wp2_with fail
      go_meet
      exact ⟨congrArg Value.bool HH.out, by rw [HBB.out]; exact HST.out⟩
  case rest =>
  obtain ⟨rfl, hwg0⟩ := hcut
  have HST := Lib.hid hwg0
  clear hwg0
  rename World => w0
  obtain ⟨E, hE⟩ : ∃ E, E = (b.pa.isEmpty && b.ha) := ⟨_, rfl⟩
  have HH := HFRM.out
  rw [← hE] at HH ⊢
  have HE := Lib.hid HH
  clear hE HH
  go_upto_if 19 with fail
  go_cut [5] (fun v wx => v = .string fb ∧ WG 34 w wx b t)
  case first =>
    cases E with
    | true =>
      have hf : fb = ⟨#[47]⟩ := by rw [HFB.out, HE.out]; rfl
      have HF := Lib.hid hf
      clear hf
      go_wp2_with fail
      go_meet
      exact ⟨by rw [HF.out], HST.out⟩
    | false =>
      have hf : fb = bb := by rw [HBB.out, HFB.out, HE.out]; rfl
      have HF := Lib.hid hf
      clear hf
      go_wp2_with fail
      go_meet
      exact ⟨by rw [HF.out], HST.out⟩
  case rest =>
    obtain ⟨rfl, hwg⟩ := hcut
    have c2 : wc.cell? ⟨w.heap.size + 1, 2, none⟩ = some (.string tp) := by rw [HTP.out]; exact (row8' hwg.rt).2.2.1
    have HWG := Lib.hid hwg
    clear hwg
    rename World => w1
    go_upto_block 0 with fail
    go_cut [6] (fun v wx => v = .int .i64 (C : Nat) ∧ WG 34 w wx b t)
    case first =>
      go_wp2_with fail
      go_loopw [6, 7] (fun nv iv wr => ∃ k n : Nat, nv = .int .i64 (n : Nat) ∧ iv = .int .i64 (k : Nat) ∧ k ≤ fb.size ∧ n ≤ k ∧ comN (fb.data.toList.drop k) (tp.data.toList.drop k) k n = C ∧ WG 34 w wr b t) (fun _ iv _ => fb.size - (intOf iv).toNat)
      case atStart => exact ⟨0, 0, rfl, rfl, Nat.zero_le _, Nat.le_refl _, HCN.out, HWG.out⟩
      case round =>
        obtain ⟨k, n, rfl, rfl, hk, hn, hc, hwg⟩ := hrel
        have c3 : wr.cell? ⟨w.heap.size + 1, 2, none⟩ = some (.string tp) := by rw [HTP.out]; exact (row8' hwg.rt).2.2.1
        have HW2 := Lib.hid hwg
        have HC2 := Lib.hid hc
        clear hwg hc
        by_cases h1 : k < fb.size
        · have d1 : decide (k < fb.size) = true := decide_eq_true h1
          by_cases h2 : k < tp.size
          · have d2 : decide (k < tp.size) = true := decide_eq_true h2
            by_cases h3 : fb[k] = tp[k]
            · have hb : ((fb[k].toNat : Int) == (tp[k].toNat : Int)) = true := by rw [h3]; simp
              have hstep := comN_step (p := fb.data.toList) (t := tp.data.toList) (k := k) (n := n) (by simpa using h1) (by simpa using h2) (by simp only [Array.getElem_toList]; exact h3)
              rw [HC2.out] at hstep
              simp only [Array.getElem_toList] at hstep
              by_cases h4 : fb[k] = 47
              · have hb4 : ((fb[k].toNat : Int) == 47) = true := by rw [h4]; rfl
                rw [if_pos (show fb.data[k] = 47 from h4)] at hstep
                have HS := Lib.hid hstep
                clear hstep h3 h4
                go_wp2_with fail
                go_quiet (fail)
                go_wp2
                go_roundw
                case rel => exact ⟨k + 1, k + 1, by go_num, by go_num, by omega, by omega, HS.out.symm, HW2.out.drewN nq⟩
                case measure => simp [intOf]; omega
              · have hb4 : ((fb[k].toNat : Int) == 47) = false := by
                  rw [beq_eq_false_iff_ne]; intro h; exact h4 (UInt8.toNat.inj (by simpa using (by omega : fb[k].toNat = 47)))
                rw [if_neg (show ¬ fb.data[k] = 47 from h4)] at hstep
                have HS := Lib.hid hstep
                clear hstep h3 h4
                go_wp2_with fail
                go_quiet (fail)
                go_wp2
                go_roundw
                case rel => exact ⟨k + 1, n, rfl, by go_num, by omega, by omega, HS.out.symm, HW2.out.drewN nq⟩
                case measure => simp [intOf]; omega
            · have hb : ((fb[k].toNat : Int) == (tp[k].toNat : Int)) = false := by
                rw [beq_eq_false_iff_ne]; intro h; exact h3 (UInt8.toNat.inj (by omega))
              have hstep := comN_diff (p := fb.data.toList) (t := tp.data.toList) (k := k) (n := n) (by simpa using h1) (by simpa using h2) (by simp only [Array.getElem_toList]; exact h3)
              have hnc : n = C := by rw [← HC2.out, hstep]
              have HNC := Lib.hid hnc
              clear hstep h3 hnc
              go_wp2_with fail
              go_quiet (fail)
              go_wp2
              go_meet
              exact ⟨by rw [HNC.out], HW2.out.drewN nq⟩
          · have d2 : decide (k < tp.size) = false := decide_eq_false h2
            have hnc : n = C := by rw [← HC2.out]; exact (comN_endt (by simp; omega)).symm
            have HNC := Lib.hid hnc
            clear hnc
            go_wp2_with fail
            go_quiet (fail)
            go_wp2
            go_meet
            exact ⟨by rw [HNC.out], HW2.out.drewN nq⟩
        · have d1 : decide (k < fb.size) = false := decide_eq_false h1
          have hnc : n = C := by rw [← HC2.out]; exact (comN_endp (by simp; omega)).symm
          have HNC := Lib.hid hnc
          clear hnc
          go_wp2_with fail
          go_quiet (fail)
          go_wp2
          go_meet
          exact ⟨by rw [HNC.out], HW2.out.drewN nq⟩
    case rest =>
      obtain ⟨rfl, hwg⟩ := hcut
      have c3 : wc.cell? ⟨w.heap.size + 1, 2, none⟩ = some (.string tp) := by rw [HTP.out]; exact (row8' hwg.rt).2.2.1
      have HW2 := Lib.hid hwg
      clear hwg c2
      obtain ⟨hC1, hC2⟩ := hcle
      rename World => w2
      go_upto_region 12 with fail
      go_loopw [8, 9] (fun uv iv wr => ∃ k j : Nat, iv = .int .i64 (k : Nat) ∧ k ≤ fb.size ∧ j ≤ k ∧ j + (fb.data.toList.drop k).count 47 = U ∧ Ow .u8 5 (w.heap.size + 2) wr uv (nums (Lib.repeatL [46, 46, 47] j)) ∧ WG 34 w wr b t) (fun _ iv _ => fb.size - (intOf iv).toNat)
      case atStart => exact ⟨C, 0, rfl, hC1, Nat.zero_le _, by rw [HUP2.out]; omega, Ow.nil _ _ _ _, HW2.out⟩
      case round =>
        obtain ⟨k, j, rfl, hk, hj, hc, ho, hwg⟩ := hrel
        have hsw := lt_of_block hwg.rt
        have HO := Lib.hid ho
        have HWR := Lib.hid hwg
        clear ho hwg
        by_cases h1 : k < fb.size
        · have hcs : (fb.data.toList.drop k).count 47 = (if fb[k] = 47 then 1 else 0) + (fb.data.toList.drop (k + 1)).count 47 := by
            rw [List.drop_eq_getElem_cons (by simpa using h1), List.count_cons]
            simp only [Array.getElem_toList]
            by_cases h : fb[k] = 47
            · have h' : fb.data[k] = 47 := h
              simp [h, h']; omega
            · have h' : ¬ fb.data[k] = 47 := h
              simp [h, h']
          rw [hcs] at hc
          by_cases h4 : fb[k] = 47
          · have hb4 : ((fb[k].toNat : Int) == 47) = true := by rw [h4]; rfl
            rw [if_pos h4] at hc
            have hrl : (Lib.repeatL [46, 46, 47] j).length = j * 3 := Lib.repeatL_length _ _
            have hbd : (Lib.repeatL [46, 46, 47] j).length + 3 ≤ 140737488355328 := by omega
            have HBD := Lib.hid hbd
            have HC := Lib.hid hc
            clear hcs h4 hc hrl hbd
            go_wp2_with (at_builtin; go_loud (refine wpList_appS rfl _ _ _ _ rfl (w.heap.size + 2) 5 Try.underlying50 Try.underlying9 Try.infoU8 _ (Lib.repeatL [46, 46, 47] j) rfl HO.out ⟨#[46, 46, 47]⟩ rfl HBD.out (by omega) ?_; intro v' w1 ho hg; (have HO2 := Lib.hid ho); (have HW3 := Lib.hid (HWR.out.grown hg (fun x e => (HO.out.lt x e).1))); clear ho hg))
            go_roundw
            case rel => exact ⟨k + 1, j + 1, by go_num, by omega, by omega, by have := HC.out; omega, by rw [repeatL_snoc]; exact HO2.out, HW3.out⟩
            case measure => simp [intOf]; omega
          · have hb4 : ((fb[k].toNat : Int) == 47) = false := by
              rw [beq_eq_false_iff_ne]; intro h; exact h4 (UInt8.toNat.inj (by simpa using (by omega : fb[k].toNat = 47)))
            rw [if_neg h4] at hc
            have HC := Lib.hid hc
            clear hcs h4 hc
            go_wp2_with fail
            go_roundw
            case rel => exact ⟨k + 1, j, by go_num, by omega, by omega, by have := HC.out; omega, HO.out, HWR.out⟩
            case measure => simp [intOf]; omega
        · have hj2 : j = U := by rw [List.drop_of_length_le (by simp; omega)] at hc; simpa using hc
          have ho2 := HO.out
          rw [hj2] at ho2
          clear HO hj2 hc hj
          have hcv := fun n => (ho2.drewN n).str (P := Try.prog) (dst := 9) Try.underlying50 Try.underlying5 Try.underlying9
          obtain ⟨a5, c5, rfl, hsl5, _⟩ := ho2.sl
          have hn3 : (nums (Lib.repeatL [46, 46, 47] U)).length = U * 3 := by rw [nums_len, Lib.repeatL_length]; rfl
          obtain ⟨n3, hn3'⟩ : ∃ n3, n3 = (nums (Lib.repeatL [46, 46, 47] U)).length := ⟨_, rfl⟩
          rw [← hn3'] at hn3 hcv ⊢
          have c9 : wr.cell? ⟨w.heap.size + 1, 2, none⟩ = some (.string tp) := by rw [HTP.out]; exact (row8' HWR.out.rt).2.2.1
          obtain ⟨rp, hrp0⟩ : ∃ rp : ByteArray, rp = ⟨(Lib.repeatL [46, 46, 47] U).toArray⟩ := ⟨_, rfl⟩
          have hrpz : rp.size ≤ 3000003 := by rw [hrp0, Lib.size_eq, Lib.repeatL_length]; simp; omega
          rw [← hrp0] at hcv
          have hrl : (tp.extract C tp.size).data.toList = R := by rw [extract_ds, HRST.out]
          have hrz : (tp.extract C tp.size).size ≤ 1000000 := by rw [Lib.size_eq, extract_ds, List.length_drop, ← Lib.size_eq]; omega
          obtain ⟨rb, hrb⟩ : ∃ rb, rb = tp.extract C tp.size := ⟨_, rfl⟩
          rw [← hrb] at hrl hrz
          have hrs : rb.size = R.length := by rw [Lib.size_eq, hrl]
          obtain ⟨m, hm⟩ : ∃ m, m = toS R := ⟨_, rfl⟩
          have hmle := toS_le R
          rw [← hm, ← hrs] at hmle
          have hun : ∀ w, Calls Try.prog 38 #[.string rb, .string ⟨#[47]⟩] w fun e w' => e = .returned (.int .i64 (m : Nat)) ∧ ∃ n, w' = w.drewN n := fun w =>
            (until_calls rb ⟨#[47]⟩ w (by omega) (by decide)).mono fun _ _ ⟨h1, h2⟩ => ⟨h1.trans (ret_int (by rw [hrl, hm, toS_among])), h2⟩
          obtain ⟨fs, hfs⟩ : ∃ fs : ByteArray, fs = ⟨(R.take (toS R)).toArray⟩ := ⟨_, rfl⟩
          have hfl : fs.data.toList = R.take (toS R) := by rw [hfs]
          have hfz : fs.size = m := by rw [Lib.size_eq, hfl, toS_sizes, hm]
          have hex : rb.extract 0 m = fs := by rw [extract_take, hrl, hm, hfs]
          obtain ⟨q, hq⟩ : ∃ q, q = unt (among [58]) fs.data.toList := ⟨_, rfl⟩
          have hu2 : ∀ w, Calls Try.prog 38 #[.string fs, .string ⟨#[58]⟩] w fun e w' => e = .returned (.int .i64 (q : Nat)) ∧ ∃ n, w' = w.drewN n := fun w =>
            (until_calls fs ⟨#[58]⟩ w (by omega) (by decide)).mono fun _ _ ⟨h1, h2⟩ => ⟨h1.trans (ret_int (by rw [hq])), h2⟩
          have hqc : decide (q < fs.size) = (R.take (toS R)).contains 58 := by rw [hq, Lib.size_eq, unt_contains, hfl]
          have hqz : q ≤ fs.size := by rw [hq, Lib.size_eq]; exact unt_le _ _
          have hfe : fs.toList.isEmpty = (R.isEmpty || R.head? == some 47) := by
            rw [Lib.toList_data, hfl]
            cases R with
            | nil => rfl
            | cons c q =>
              by_cases h : c = 47
              · simp [toS, h]
              · simp [toS, h]
          have dotw : D = true → ∀ X : World, Below w.heap.size w X → (Ending.returned (.string (⟨#[46, 47]⟩ ++ rb)) = .returned (.string ⟨Y.toArray⟩) ∧ Below w.heap.size w X) := fun h X hX => ⟨ret_str (byte_ext (by rw [cat_data, hrl, HWAY.out, if_pos h])), hX⟩
          have upw : D = false → ∀ X : World, Below w.heap.size w X → (Ending.returned (.string (rp ++ rb)) = .returned (.string ⟨Y.toArray⟩) ∧ Below w.heap.size w X) := fun h X hX => ⟨ret_str (byte_ext (by rw [cat_data, hrl, HWAY.out, if_neg (by simp [h]), hrp0])), hX⟩
          have hn30 : (n3 = 0) = (U = 0) := by rw [hn3]; exact propext ⟨fun h => by omega, fun h => by omega⟩
          have HUN := Lib.hid hun
          have HRB := Lib.hid hrb
          have HEX := Lib.hid hex
          have HU2 := Lib.hid hu2
          have HQC := Lib.hid hqc
          have HFE := Lib.hid hfe
          have DOTW := Lib.hid dotw
          have UPW := Lib.hid upw
          have HN30 := Lib.hid hn30
          have hn3b : n3 ≤ 3000003 := by omega
          have hn3c := hsl5.le
          have hn3d := hsl5.max
          rw [← hn3'] at hn3c
          clear hun hrb hex hu2 hqc hfe dotw upw hn30 hn3 hn3' hsl5 ho2 hrl hrs hm hfs hfl hfz hq hrp0
          go_upto_region 17 with fail
          generalize hrb2 : tp.extract C tp.size = rb2
          obtain rfl : rb2 = rb := hrb2.symm.trans HRB.out.symm
          clear hrb2
          go_upto_region 18 with (go_at_call 38; refine (HUN.out _).mono ?_; rintro e w' ⟨rfl, n1, rfl⟩)
          generalize hex2 : rb2.extract 0 m = fs2
          obtain rfl : fs2 = fs := hex2.symm.trans HEX.out
          clear hex2
          by_cases hU0 : U = 0
          · have e1 : ((n3 : Int) == 0) = true := by
              have : n3 = 0 := by rw [HN30.out]; exact hU0
              simp [this]
            have hD0 : D = (fs2.toList.isEmpty || decide (q < fs2.size)) := by rw [HDOT.out, hU0, HFE.out, HQC.out]; rfl
            have HD0 := Lib.hid hD0
            clear hD0 hU0
            cases e2 : fs2.toList.isEmpty with
            | true =>
              have hD : D = true := by rw [HD0.out, e2]; rfl
              have HD := Lib.hid hD
              clear hD
              go_wp2_with fail
              go_ret
              exact DOTW.out HD.out _ (Go.Tk.below_drewN HWR.out.below _)
            | false =>
              cases e3 : decide (q < fs2.size) with
              | true =>
                have hD : D = true := by rw [HD0.out, e2, e3]; rfl
                have HD := Lib.hid hD
                clear hD
                go_wp2_with (go_at_call 38; refine (HU2.out _).mono ?_; rintro e w' ⟨rfl, n2, rfl⟩)
                go_ret
                exact DOTW.out HD.out _ (Go.Tk.below_drewN HWR.out.below _)
              | false =>
                have hD : D = false := by rw [HD0.out, e2, e3]; rfl
                have HD := Lib.hid hD
                clear hD
                go_wp2_with (go_at_call 38; refine (HU2.out _).mono ?_; rintro e w' ⟨rfl, n2, rfl⟩)
                go_ret
                exact UPW.out HD.out _ (Go.Tk.below_drewN HWR.out.below _)
          · have e1 : ((n3 : Int) == 0) = false := by
              have : n3 ≠ 0 := by intro h; exact hU0 (by rw [← HN30.out]; exact h)
              simp [this]
            have hD : D = false := by rw [HDOT.out, decide_eq_false hU0]; rfl
            have HD := Lib.hid hD
            clear hD hU0
            go_wp2_with fail
            go_ret
            exact UPW.out HD.out _ (Go.Tk.below_drewN HWR.out.below _)
end Go.Proofs.Ythdkhlkmcebfeaa
