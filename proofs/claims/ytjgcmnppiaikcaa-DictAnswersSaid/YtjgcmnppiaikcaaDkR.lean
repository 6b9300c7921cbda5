/- The document's Build of texts that are few. -/
import Derived.Test.YtjgcmnppiaikcaaDkB
import Derived.Outline
import Derived.Deep.Cut
set_option linter.unusedVariables false
set_option linter.unusedSimpArgs false
namespace Go.Tk
open Go Go.RowKit
/-- append(v, s...), s a string, v the call's own bytes. -/
theorem wpList_appT {P : Program} {w : World} {ops : Array Oper} {rest : List Oper} {o : Oper} {a : Act} {Q : Exit → Act → World → Prop} (hgd : o.guard = none) (sl x : Operand) (t u : TypeId)
    (ho : o.op = .call { callee := .builtin .append, args := #[sl, x], argTypes := #[t, u] })
    (base : Nat) (e : TypeId) (ht : P.underlying t = some (.slice e)) (hu : P.underlying u = some .string) (hinfo : (P.info? e).map (fun i => (i.zero, i.size, i.bytes)) = some (some (.int .u8 0), 1, 1))
    (v : Value) (zs : List Int) (hs : a.eval sl = v) (hown : Ow .u8 e base w v zs) (s : ByteArray) (hx : a.eval x = .string s)
    (hbytes : zs.length + s.size ≤ 140737488355328) (hbase : base ≤ w.heap.size)
    (h : ∀ v' w', Ow .u8 e base w' v' (zs ++ nums s.data.toList) → w.grownBy w' v.ownBlock → wpList P ops Q rest (a.put o.dst v') w') : wpList P ops Q (o :: rest) a w := by
  obtain ⟨i, hi, hz0, hz1, hz2⟩ := info_parts hinfo
  refine Lib.wpList_append_own_string (w := w) hgd sl x t u ho base e i ht hu hi hz0 hz1 hz2 v zs.length _ hs hown s hx (by simp only [maxLen]; omega) (by omega) hbase ?_
  intro v' w' h1 h2 h3
  refine h v' w' ?_ h2
  unfold Ow
  rw [List.length_append, List.map_append]
  rw [strCells_nums] at h1
  have hl : (nums s.data.toList).length = s.size := by rw [nums_len, Lib.size_eq]
  rw [hl]
  exact h1
theorem OwnStep.tr {w w' : World} {a b c : Value} (h : OwnStep w a b) (k : OwnStep w' b c) (hs : w.heap.size ≤ w'.heap.size) : OwnStep w a c := by
  rcases k with e | ⟨g, e, hg⟩
  · rcases h with e2 | ⟨g, e2, hg⟩
    · exact .inl (e.trans e2)
    · exact .inr ⟨g, e.trans e2, hg⟩
  · exact .inr ⟨g, e, Nat.le_trans hs hg⟩
theorem OwnStep.from {w w' : World} {a b : Value} (h : OwnStep w' a b) (hs : w.heap.size ≤ w'.heap.size) : OwnStep w a b := by
  rcases h with e | ⟨g, e, hg⟩
  · exact .inl e
  · exact .inr ⟨g, e, Nat.le_trans hs hg⟩
end Go.Tk
namespace Go.Proofs.Ytjgcmnppiaikcaa
open Go.RowKit Go.Tk
/-- What put does to bytes of the caller's own. -/
def PutR (w : World) (base : Nat) (v : Value) (zs : List Int) (e : Ending) (w' : World) : Prop := ∃ v', e = .returned v' ∧ Ow .u8 5 base w' v' zs ∧ Kept (fun k => v.ownBlock = some k) w w'
theorem rput_calls (w : World) (base : Nat) (hb : base ≤ w.heap.size) (v : Value) (zs : List Int) (how : Ow .u8 5 base w v zs) (n : Nat) (hn : n ≤ 9223372036854775807) (s : ByteArray) (hl : zs.length + s.size ≤ 140737488000000) :
    Calls Try.prog 38 #[v, .int .i64 (n : Nat), .string s] w (PutR w base v (zs ++ vz (n : Nat) ++ nums s.data.toList)) := by
  obtain ⟨va, vc, rfl, hsl, _⟩ := how.sl
  have hv := vz_len (n : Nat)
  have HOW := Lib.hid how
  clear how hsl
  go_enter Try.func38, Try.ntmps38
  go_wp2_with (first
    | (go_at_call 40; refine (rvarint_calls w (n : Nat) (by omega) (by omega)).mono ?_; rintro e w1 hr; obtain ⟨v1, rfl, ow1, k1⟩ := hr; (have HOW1 := Lib.hid (HOW.out.kept2 k1 (fun _ _ h => h))); (have hv1 := ow1); obtain ⟨a1, c1, rfl, sl1, _⟩ := ow1.sl; (have hn1 : a1 = none → c1 = 0 := by rintro rfl; exact hv1.nil_cap); (have HN1 := Lib.hid hn1); (have SL1 := Lib.hid sl1); (have K1 := Lib.hid k1); (have z1 := k1.size); clear ow1 hv1 k1 sl1 hn1)
    | (at_builtin; refine wpList_appJ rfl (.tmp 7) (.tmp 10) _ rfl .u8 base 5 _ 1 Try.underlying24 Try.infoU8 rfl _ zs rfl HOW1.out _ _ _ _ rfl SL1.out HN1.out (by omega) (by omega) (by omega) ?_; intro v2 w2 ow2 hg2 st2; (have OW2 := Lib.hid ow2); (have K2 := Lib.hid (K1.out.mono (T := fun k => Value.ownBlock (.slice va zs.length vc) = some k) (fun _ h => h.elim) |>.trans (Kept.of_grown hg2) (fun i hi => .inl hi))); (have ST2 := Lib.hid (OwnStep.from st2 z1)); (have z2 := K2.out.size); clear ow2 hg2 st2)
    | (at_builtin; refine wpList_appT rfl (.tmp 12) (.tmp 13) _ _ rfl base 5 Try.underlying24 Try.underlying9 Try.infoU8 _ _ rfl OW2.out s rfl (by simp only [List.length_append]; omega) (by omega) ?_; intro v3 w3 ow3 hg3; (have OW3 := Lib.hid ow3); (have HG3 := Lib.hid hg3); clear ow3 hg3))
  go_ret
  refine ⟨_, rfl, OW3.out, ?_⟩
  refine K2.out.trans (Kept.of_grown HG3.out) (fun k hk => ?_)
  have hk' : v2.ownBlock = some k := hk
  rcases ST2.out with e | ⟨g, e, hg⟩
  · exact .inl (e.symm.trans hk')
  · have := Option.some.inj (e.symm.trans hk'); exact .inr (by omega)
/-- Bytes and places never lie in one block. -/
theorem ow_apart {n0 : Nat} {w : World} {av : Value} {zs : List Int} {pv : Value} {ps : List Int} (h1 : Ow .u8 5 n0 w av zs) (h2 : Ow .u64 62 n0 w pv ps) : ∀ k, av.ownBlock = some k → pv.ownBlock ≠ some k := by
  intro k ha hp
  rcases h1.2 with ⟨rfl, _⟩ | ⟨g, c, cur, rfl, _, hg, _⟩
  · simp [Value.ownBlock] at ha
  · rcases h2.2 with ⟨rfl, _⟩ | ⟨g', c', cur', rfl, _, hg', _⟩
    · simp [Value.ownBlock] at hp
    · simp [Value.ownBlock] at ha hp
      subst ha hp
      rw [hg] at hg'
      have := Option.some.inj hg'
      injection this with _ h _
      exact absurd h (by decide)
/-- The area and the places. -/
structure RS (n0 : Nat) (w : World) (av : Value) (zs : List Int) (pv : Value) (ps : List Int) : Prop where
  A : Ow .u8 5 n0 w av zs
  P : Ow .u64 62 n0 w pv ps
theorem RS.appP {n0 : Nat} {w : World} {av : Value} {zs : List Int} {pv : Value} {ps : List Int} (h : RS n0 w av zs pv ps) {w' : World} {pv' : Value} {ps' : List Int} (ho : Ow .u64 62 n0 w' pv' ps') (hg : w.grownBy w' pv.ownBlock) : RS n0 w' av zs pv' ps' :=
  ⟨h.A.kept2 (Kept.of_grown hg) (fun k hk hp => ow_apart h.A h.P k hk hp), ho⟩
theorem RS.appA {n0 : Nat} {w : World} {av : Value} {zs : List Int} {pv : Value} {ps : List Int} (h : RS n0 w av zs pv ps) {w' : World} {av' : Value} {zs' : List Int} (ho : Ow .u8 5 n0 w' av' zs') (hk : Kept (fun k => av.ownBlock = some k) w w') : RS n0 w' av' zs' pv ps :=
  ⟨ho, h.P.kept2 hk (fun k hp ha => ow_apart h.A h.P k ha hp)⟩
theorem RS.kept {n0 : Nat} {w : World} {av : Value} {zs : List Int} {pv : Value} {ps : List Int} (h : RS n0 w av zs pv ps) {w' : World} (hk : Kept (fun _ => False) w w') : RS n0 w' av zs pv ps :=
  ⟨h.A.kept2 hk (fun _ _ h => h), h.P.kept2 hk (fun _ _ h => h)⟩
theorem commonB_calls (w : World) (s t : ByteArray) (hs : s.size ≤ 1000000000000000) (ht : t.size ≤ 1000000000000000) :
    Calls Try.prog 39 #[.string s, .string t] w fun e w' => e = .returned (.int .i64 (comN s.data.toList t.data.toList : Nat)) ∧ ∃ m, w' = w.drewN m :=
  common_calls w s.data.toList t.data.toList (by rw [← Lib.size_eq]; exact hs) (by rw [← Lib.size_eq]; exact ht)
set_option maxRecDepth 100000 in
set_option maxHeartbeats 4000000 in
theorem rbuild_calls (w : World) (a : Option Addr) (n c : Nat) (L : List (List UInt8)) (h : SlS w a n c L) (ht : TxtOk L) (hf : tot L ≤ 2000000) (most : Int) (hm : -9223372036854775808 ≤ most ∧ most ≤ 9223372036854775807) :
    Calls Try.prog 12 #[.slice a n c, .int .i64 most] w fun e w' => ∃ v, e = .returned (.tuple #[v, .int .i64 (buildE L most)]) ∧ Ow .u8 5 w.heap.size w' v (buildO L most) ∧ Below w.heap.size w w' := by
  have hle := h.le
  have hmx := h.max
  have hnL := tot_len L
  have hn2 : n ≤ 2000000 := by rw [← h.len]; omega
  have HT := Lib.hid ht
  have HS := Lib.hid h
  have HL := Lib.hid h.len
  have HF := Lib.hid hf
  have hgeq := binOp_string_geq
  clear h ht hf hnL
  have hbad : ∀ E : Int, chkE L = E → E ≠ 0 → buildE L most = E ∧ buildO L most = [] := fun E h1 h2 => by
    have hbe : buildE L most = E := by unfold buildE; rw [h1, if_pos h2]
    exact ⟨hbe, by unfold buildO; rw [hbe, if_neg h2]⟩
  have HBAD := Lib.hid hbad
  clear hbad
  go_enter Try.func12, Try.ntmps12
  go_wp2
  go_loopw [6] (fun iv wr => ∃ (i : Nat), iv = .int .i64 (i : Nat) ∧ i ≤ n ∧ (∀ j, j < i → (L.getD j []).length ≤ 262144) ∧ wr = w) (fun iv _ => n - (intOf iv).toNat)
  case atStart => exact ⟨0, rfl, Nat.zero_le _, (fun j hj => by omega), rfl⟩
  case round =>
    obtain ⟨i, rfl, hi, hsm, rfl⟩ := hrel
    have HSM := Lib.hid hsm
    clear hsm
    by_cases hlt : i < n
    · obtain ⟨b, o, rfl, hc⟩ := HS.out.cell i hlt
      have hiL : i < L.length := by rw [HL.out]; exact hlt
      have hsz : (L.getD i []).length ≤ 9223372036854775807 := HT.out _ (by
        have : L.getD i [] = L[i] := by simp [hiL]
        rw [this]; exact List.getElem_mem hiL)
      obtain ⟨s, hs⟩ : ∃ s : ByteArray, s = ⟨(L.getD i []).toArray⟩ := ⟨_, rfl⟩
      have hss : s.size = (L.getD i []).length := by rw [hs]; simp [ByteArray.size]
      rw [← hs] at hc
      have HSS := Lib.hid hss
      have HIL := Lib.hid hiL
      rw [← hss] at hsz
      clear hs hss hiL
      by_cases hbig : 262144 < s.size
      · have hl := long_yes HIL.out (by have := HSS.out; omega)
        obtain ⟨hbe, hbo⟩ := HBAD.out 2 (by unfold chkE; rw [if_pos hl]) (by omega)
        have HBE := Lib.hid hbe
        have HBO := Lib.hid hbo
        clear hl hbe hbo
        go_wp2
        go_ret2
        exact ⟨_, by rw [HBE.out]; rfl, by rw [HBO.out]; exact Ow.nil _ _ _ _, Below.refl _ _⟩
      · go_wp2
        refine ⟨⟨i + 1, by go_num, by omega, fun j hj => ?_, trivial⟩, by simp [intOf]; omega⟩
        by_cases hji : j = i
        · subst hji; have := HSS.out; omega
        · exact HSM.out j (by omega)
    · obtain rfl : i = n := by omega
      have hlg : ∀ j, j < L.length → (L.getD j []).length ≤ 262144 := fun j hj => HSM.out j (by rw [← HL.out]; exact hj)
      have hl := long_no hlg
      have HLO := Lib.hid hl
      have HLG := Lib.hid hlg
      clear hl hlg
      rename World => w0
      go_wp2_with fail
      go_loopw [7] (fun iv wr => ∃ (k m : Nat), iv = .int .i64 (k : Nat) ∧ 1 ≤ k ∧ (k ≤ i ∨ k = 1) ∧ (∀ j, 0 < j → j < k → j < i → ltB (L.getD (j - 1) []) (L.getD j []) = true) ∧ wr = w0.drewN m) (fun iv _ => i + 1 - (intOf iv).toNat)
      case atStart => exact ⟨1, 0, rfl, Nat.le_refl _, .inr rfl, (fun j h1 h2 => by omega), rfl⟩
      case round =>
        obtain ⟨k, m, rfl, hk1, hk2, hr, rfl⟩ := hrel
        have HR := Lib.hid hr
        clear hr
        by_cases hki : k < i
        · obtain ⟨b, o, rfl, hc⟩ := HS.out.cell k hki
          obtain ⟨b', o', he', hc'⟩ := HS.out.cell (k - 1) (by omega)
          have hea : (⟨b, o, none⟩ : Addr) = ⟨b', o', none⟩ := Option.some.inj he'
          injection hea with e1 e2
          subst e1 e2
          obtain ⟨s, hs⟩ : ∃ s : ByteArray, s = ⟨(L.getD (k - 1) []).toArray⟩ := ⟨_, rfl⟩
          obtain ⟨t, ht⟩ : ∃ t : ByteArray, t = ⟨(L.getD k []).toArray⟩ := ⟨_, rfl⟩
          have hlt2 : Op.bytesLess s.toList t.toList = ltB (L.getD (k - 1) []) (L.getD k []) := by rw [hs, ht, toList_mk, toList_mk]; rfl
          rw [← hs] at hc'
          rw [← ht] at hc
          have HLT := Lib.hid hlt2
          obtain ⟨k1, hk4⟩ : ∃ k1 : Nat, k1 = k - 1 := ⟨_, rfl⟩
          rw [← hk4] at hc'
          have hk5 : (k : Int) - 1 = (k1 : Int) := by omega
          have hk6 : k1 < i := by omega
          have hk7 : IntKind.i64.wrap (k1 : Int) = (k1 : Int) := by rw [IntKind.wrap_i64]; omega
          clear hs ht hlt2 he' hk4
          cases hq : Op.bytesLess s.toList t.toList with
          | true =>
            have hq2 := HLT.out.symm.trans hq
            have HQ := Lib.hid hq2
            clear hq2
            go_wp2_with fail
            go_quiet (fail)
            go_wp2
            refine ⟨⟨k + 1, _, by go_num, by omega, by omega, fun j h1 h2 h3 => ?_, rfl⟩, by simp [intOf]; omega⟩
            by_cases hjk : j = k
            · subst hjk; exact HQ.out
            · exact HR.out j h1 (by omega) h3
          | false =>
            have hq2 := HLT.out.symm.trans hq
            have hri := rise_no (L := L) (i := k) (by omega) (by rw [HL.out]; exact hki) hq2
            obtain ⟨hbe, hbo⟩ := HBAD.out 160 (by unfold chkE; rw [HLO.out, hri]; rfl) (by omega)
            have HBE := Lib.hid hbe
            have HBO := Lib.hid hbo
            clear hq2 hri hbe hbo
            go_wp2_with fail
            go_quiet (fail)
            go_wp2
            go_ret2
            exact ⟨_, by rw [HBE.out]; rfl, by rw [HBO.out]; exact Ow.nil _ _ _ _, below_drewN (below_drewN (Below.refl _ _) _) _⟩
        · have hri := rise_yes (L := L) (fun j h1 h2 => HR.out j h1 (by rw [HL.out] at h2; omega) (by rw [HL.out] at h2; exact h2))
          have he : chkE L = 0 := by unfold chkE; rw [HLO.out, hri]; rfl
          have HE := Lib.hid he
          clear hri he
          have hB1 : Below w0.heap.size w0 (w0.drewN m) := below_drewN (Below.refl _ _) m
          have HB1 := Lib.hid hB1
          clear hB1
          go_wp2_with fail
          have hrs0 : RS w0.heap.size (w0.drewN m) (.slice none 0 0) [] (.slice none 0 0) [] := ⟨Ow.nil _ _ _ _, Ow.nil _ _ _ _⟩
          have HRS0 := Lib.hid hrs0
          clear hrs0
          go_loopw [8, 9, 10] (fun av pv iv wr => ∃ (q : Nat), iv = .int .i64 (q : Nat) ∧ q ≤ i ∧ RS w0.heap.size wr av (areaN L q) pv (placN L q) ∧ Below w0.heap.size w0 wr) (fun _ _ iv _ => i - (intOf iv).toNat)
          case atStart => exact ⟨0, rfl, Nat.zero_le _, HRS0.out, HB1.out⟩
          case round =>
            obtain ⟨q, rfl, hq, hrs, hbw⟩ := hrel
            have hzw := hbw.size
            have hal := area_small HLG.out HF.out q (by rw [HL.out]; exact hq)
            by_cases hlt : q < i
            · obtain ⟨bb, bo, rfl, hc⟩ := HS.out.cell q hlt
              have hsz := HLG.out q (by rw [HL.out]; exact hlt)
              obtain ⟨s, hs⟩ : ∃ s : ByteArray, s = ⟨(L.getD q []).toArray⟩ := ⟨_, rfl⟩
              rw [← hs] at hc
              have hsd : s.data.toList = L.getD q [] := by rw [hs]
              have hss : s.size = (L.getD q []).length := by rw [Lib.size_eq, hsd]
              have hs18 : s.size ≤ 262144 := by rw [hss]; exact hsz
              have HSD := Lib.hid hsd
              have HSS := Lib.hid hss
              obtain ⟨zs, hzs⟩ : ∃ zs, zs = areaN L q := ⟨_, rfl⟩
              obtain ⟨ps, hps⟩ : ∃ ps, ps = placN L q := ⟨_, rfl⟩
              rw [← hzs] at hrs hal
              rw [← hps] at hrs
              have hpl : ps.length ≤ 2000000 := by rw [hps]; have := plac_len L q; omega
              have HZS := Lib.hid hzs
              have HPS := Lib.hid hps
              have HRS := Lib.hid hrs
              have HBW := Lib.hid hbw
              have hcw : ∀ X, Below w0.heap.size w0 X → X.cell? ⟨bb, bo + q, none⟩ = some (.string s) := fun X h => (h.cell (p := ⟨bb, bo + q, none⟩) (block_lt_of_cell hc)).trans hc
              have HCW := Lib.hid hcw
              obtain ⟨va, vc, hav, _, _⟩ := hrs.A.sl
              subst hav
              clear hs hsd hss hsz hzs hps hrs hbw hcw hc
              have v1 := vz_len (s.size : Nat)
              by_cases h16 : q % 16 = 0
              · have e16 : ((q : Int) % 16) = 0 := by omega
                have hent : entB L q = vz (s.size : Nat) ++ nums s.data.toList := by unfold entB; rw [if_pos h16, HSD.out, HSS.out]
                have HENT := Lib.hid hent
                have H16 := Lib.hid h16
                clear hent h16
                go_upto_region 20 with (at_builtin; refine wpList_appJ rfl (.tmp 55) (.tmp 59) _ rfl .u64 w0.heap.size 62 _ 8 Try.underlying75 Try.infoU64 rfl _ ps rfl (HRS.out.P.alloc _) _ 1 1 _ rfl (SlI.one _ _ _ _) (by simp) (by omega) (by omega) (by simp; omega) ?_; intro pv' w4 ow4 hg4 st4; (have hk0 : Kept (fun _ => False) wr (wr.alloc (.cells #[.int .u64 (zs.length : Nat)] 62)) := (Kept.refl _ _).alloc _); (have rs4 := (HRS.out.kept hk0).appP ow4 hg4); (have b4 : Below w0.heap.size w0 w4 := (HBW.out.trans (Kept.to_below hk0 hzw (fun _ h => h.elim))).trans (Kept.to_below (Kept.of_grown hg4) (by simp; omega) (fun k hk => (HRS.out.P.lt k hk).1))); (have q4 := HCW.out w4 b4); (have RS4 := Lib.hid rs4); (have B4 := Lib.hid b4); (have z4 := b4.size); clear ow4 hg4 st4 hk0 rs4 b4)
                refine wp_region_quiet_tail (fun w' => ∃ n, w' = World.drewN w4 n) 10 (by kernel_rfl) (by kernel_rfl) ⟨1, rfl⟩ ?_
                simp only [List.take_succ_cons, List.take_zero, List.drop_succ_cons, List.drop_zero]
                repeat (go_big_quiet_step (fail))
                refine wpQuiet_nil ?_
                rintro _ ⟨n1, rfl⟩
                go_wp2_with (go_at_call 38; (refine (rput_calls (w4.drewN n1) w0.heap.size (by show w0.heap.size ≤ w4.heap.size; omega) _ _ (RS4.out.A.drewN n1) s.size (by omega) _ (by (try simp only [List.length_append]); omega)).mono ?_; rintro e w5 hp; obtain ⟨v5, rfl, ow5, k5⟩ := hp; (have rs5 := (RS4.out.kept ((Kept.refl (fun _ => False) w4).drewN n1)).appA ow5 k5); (have b5 := ((below_drewN B4.out n1).trans (Kept.to_below k5 (by show w0.heap.size ≤ w4.heap.size; omega) (fun k hk => (RS4.out.A.lt k hk).1)))); (have RS5 := Lib.hid rs5); (have B5 := Lib.hid b5); clear ow5 k5 rs5 b5))
                refine ⟨⟨q + 1, by go_num, by omega, ?_, B5.out⟩, by simp [intOf]; omega⟩
                have hA : areaN L (q + 1) = zs ++ vz (s.size : Nat) ++ nums s.data.toList := by simp only [areaN]; rw [← HZS.out, HENT.out, List.append_assoc]
                have hP : placN L (q + 1) = ps ++ [(zs.length : Int)] := by simp only [placN]; rw [if_pos H16.out, ← HPS.out, ← HZS.out]
                rw [hA, hP]
                exact RS5.out
              · have e16 : ((q : Int) % 16 == 0) = false := by rw [beq_eq_false_iff_ne]; omega
                obtain ⟨b', o', he', hc'⟩ := HS.out.cell (q - 1) (by omega)
                have hea : (⟨bb, bo, none⟩ : Addr) = ⟨b', o', none⟩ := Option.some.inj he'
                injection hea with e1' e2'
                subst e1' e2'
                obtain ⟨i1, hi1e⟩ : ∃ i1 : Nat, i1 = q - 1 := ⟨_, rfl⟩
                obtain ⟨t, ht⟩ : ∃ t : ByteArray, t = ⟨(L.getD (q - 1) []).toArray⟩ := ⟨_, rfl⟩
                rw [← ht] at hc'
                have htd : t.data.toList = L.getD (q - 1) [] := by rw [ht]
                have hts : t.size ≤ 262144 := by rw [Lib.size_eq, htd]; exact HLG.out _ (by rw [HL.out]; omega)
                rw [← hi1e] at hc'
                have hcw' : ∀ X, Below w0.heap.size w0 X → X.cell? ⟨bb, bo + i1, none⟩ = some (.string t) := fun X h => (h.cell (p := ⟨bb, bo + i1, none⟩) (block_lt_of_cell hc')).trans hc'
                have q0 := hcw' _ HBW.out
                have q1 := HCW.out _ HBW.out
                have hk5 : (q : Int) - 1 = (i1 : Int) := by omega
                have hk6 : i1 < i := by omega
                have hk7 : IntKind.i64.wrap (i1 : Int) = (i1 : Int) := by rw [IntKind.wrap_i64]; omega
                obtain ⟨cn, hcn⟩ : ∃ cn, cn = comN t.data.toList s.data.toList := ⟨_, rfl⟩
                have hcl := (comN_le t.data.toList s.data.toList).2
                rw [← hcn, ← Lib.size_eq] at hcl
                have hent : entB L q = vz (cn : Nat) ++ (vz ((s.size - cn : Nat) : Int) ++ nums (s.data.toList.drop cn)) := by
                  unfold entB; rw [if_neg h16, ← htd, ← HSD.out, ← hcn, ← Lib.size_eq]
                have hsub : (s.size : Int) - (cn : Int) = ((s.size - cn : Nat) : Int) := by omega
                obtain ⟨u, hu⟩ : ∃ u : ByteArray, u = s.extract cn s.size := ⟨_, rfl⟩
                have hud : u.data.toList = s.data.toList.drop cn := by rw [hu, extract_drop]
                have hus : u.size ≤ 262144 := by rw [Lib.size_eq, hud, List.length_drop, ← Lib.size_eq]; omega
                have v2 := vz_len (cn : Nat)
                have v3 := vz_len ((s.size - cn : Nat) : Int)
                obtain ⟨dn, hdn⟩ : ∃ dn : Nat, dn = s.size - cn := ⟨_, rfl⟩
                have hdb : dn ≤ 262144 := by omega
                have hdw : IntKind.i64.wrap (dn : Int) = (dn : Int) := by rw [IntKind.wrap_i64]; omega
                rw [← hdn] at hsub hent v3
                have hcom := fun X => commonB_calls X t s (by omega) (by omega)
                rw [← hcn] at hcom
                have HENT := Lib.hid hent
                have H16 := Lib.hid h16
                have hu2 : s.extract cn s.size = u := hu.symm
                have HUD := Lib.hid hud
                have HCOM := Lib.hid hcom
                clear hent h16 hcn htd ht he' hud hi1e hdn hu hcom hcw' hc'
                go_upto_region 21 with fail
                go_quiet ((go_at_call 39; exact (HCOM.out _).mono fun _ _ ⟨he, m, hm⟩ => ⟨he, _, hm.trans (drewN2 wr _ m)⟩))
                generalize hw2 : World.drewN _ nq = w2
                have k2 : Kept (fun _ => False) wr w2 := by rw [← hw2]; exact (Kept.refl _ _).drewN _
                have RS2 := Lib.hid (HRS.out.kept k2)
                have B2 := Lib.hid (HBW.out.trans (Kept.to_below k2 hzw (fun _ h => h.elim)))
                have z2 := B2.out.size
                clear k2 hw2 q0 q1
                go_upto_region 23 with (first
                  | (go_at_call 40; (refine (rvarint_calls w2 (cn : Nat) (by omega) (by omega)).mono ?_; rintro e w3 hr; obtain ⟨vv, rfl, ow1, k1⟩ := hr; (have RS3 := Lib.hid (RS2.out.kept k1)); (have B3 := Lib.hid (B2.out.trans (Kept.to_below k1 z2 (fun _ h => h.elim)))); (have z3 := B3.out.size); (have hv1 := ow1); obtain ⟨a1, c1, rfl, sl1, _⟩ := ow1.sl; (have hn1 : a1 = none → c1 = 0 := by rintro rfl; exact hv1.nil_cap); (have HN1 := Lib.hid hn1); (have SL1 := Lib.hid sl1); clear ow1 hv1 k1 sl1 hn1))
                  | (at_builtin; (refine wpList_appJ rfl (.tmp 82) (.tmp 85) _ rfl .u8 w0.heap.size 5 _ 1 Try.underlying24 Try.infoU8 rfl _ zs rfl RS3.out.A _ _ _ _ rfl SL1.out HN1.out (by omega) (by omega) (by omega) ?_; intro v4 w4 ow4 hg4 st4; obtain ⟨zl, hzl⟩ : ∃ zl, zl = zs ++ vz (cn : Nat) := ⟨_, rfl⟩; rw [← hzl] at ow4; (have lzl : zl.length ≤ 12000010 := by rw [hzl, List.length_append]; omega); (have HZL := Lib.hid hzl); clear hzl; (have rs4 := RS3.out.appA ow4 (Kept.of_grown hg4 |>.mono (T := fun k => Value.ownBlock (.slice va zs.length vc) = some k) (fun k hk => hk))); (have b4 := B3.out.trans (Kept.to_below (Kept.of_grown hg4) z3 (fun k hk => (RS3.out.A.lt k hk).1))); (have q4 := HCW.out w4 b4); (have RS4 := Lib.hid rs4); (have B4 := Lib.hid b4); (have z4 := b4.size); obtain ⟨va4, vc4, hv4, _, _⟩ := rs4.A.sl; subst hv4; clear ow4 hg4 st4 rs4 b4)))
                refine wp_region_quiet_tail (fun w' => ∃ n, w' = World.drewN w4 n) 14 (by kernel_rfl) (by kernel_rfl) ⟨1, rfl⟩ ?_
                simp only [List.take_succ_cons, List.take_zero, List.drop_succ_cons, List.drop_zero]
                repeat (go_big_quiet_step (fail))
                refine wpQuiet_nil ?_
                rintro _ ⟨n1, rfl⟩
                go_wp2_with (go_at_call 38; (refine (rput_calls (w4.drewN n1) w0.heap.size (by show w0.heap.size ≤ w4.heap.size; omega) _ _ (RS4.out.A.drewN n1) dn (by omega) _ (by (try simp only [List.length_append]); omega)).mono ?_; rintro e w5 hp; obtain ⟨v5, rfl, ow5, k5⟩ := hp; (have rs5 := (RS4.out.kept ((Kept.refl (fun _ => False) w4).drewN n1)).appA ow5 k5); (have b5 := ((below_drewN B4.out n1).trans (Kept.to_below k5 (by show w0.heap.size ≤ w4.heap.size; omega) (fun k hk => (RS4.out.A.lt k hk).1)))); (have RS5 := Lib.hid rs5); (have B5 := Lib.hid b5); clear ow5 k5 rs5 b5))
                refine ⟨⟨q + 1, by go_num, by omega, ?_, B5.out⟩, by simp [intOf]; omega⟩
                have hA : areaN L (q + 1) = zl ++ vz (dn : Nat) ++ nums u.data.toList := by simp only [areaN]; rw [← HZS.out, HENT.out, HUD.out, HZL.out]; simp only [List.append_assoc]
                have hP : placN L (q + 1) = ps := by simp only [placN]; rw [if_neg H16.out, ← HPS.out]
                rw [hA, hP]
                exact RS5.out
            · obtain rfl : q = i := by omega
              have hin : L.length = q := HL.out
              have hpl : (placN L q).length ≤ 2000000 := by have := plac_len L q; omega
              have hpu : U64 (placN L q) := fun k hk => by
                have := plac_u64 HLG.out HF.out q (by omega) ((placN L q)[k]) (List.getElem_mem hk)
                simpa [hk] using this
              have hbeq : buildE L most = if most < (dictB L).length then 1 else 0 := by unfold buildE; rw [HE.out]; rfl
              have hdict : dictB L = vz (q : Nat) ++ (vz ((areaN L q).length : Nat) ++ (packOut (placN L q) (bw ((areaN L q).length : Nat)) ++ areaN L q)) := by unfold dictB packD widthD; rw [hin]
              have hbo : buildO L most = if buildE L most = 0 then dictB L else [] := rfl
              obtain ⟨zs, hzs⟩ : ∃ zs, zs = areaN L q := ⟨_, rfl⟩
              obtain ⟨ps, hps⟩ : ∃ ps, ps = placN L q := ⟨_, rfl⟩
              rw [← hzs, ← hps] at hrs hdict
              rw [← hzs] at hal
              rw [← hps] at hpl hpu
              obtain ⟨wd, hwd⟩ : ∃ wd, wd = bw (zs.length : Nat) := ⟨_, rfl⟩
              rw [← hwd] at hdict
              obtain ⟨pk, hpk⟩ : ∃ pk, pk = packOut ps wd := ⟨_, rfl⟩
              have hpkl : pk.length ≤ 16000001 := by rw [hpk]; have := packOut_len ps wd; omega
              rw [← hpk] at hdict
              obtain ⟨pa, pc, hpv, psl, _⟩ := hrs.P.sl
              subst hpv
              obtain ⟨aa, ac, hav, asl, _⟩ := hrs.A.sl
              subst hav
              have han : aa = none → ac = 0 := by rintro rfl; exact hrs.A.nil_cap
              obtain ⟨pe, hpe⟩ : ∃ pe, pe = packErr ps wd := ⟨_, rfl⟩
              have v1 := vz_len (q : Nat)
              have v2 := vz_len (zs.length : Nat)
              obtain ⟨o1, ho1⟩ : ∃ o1, o1 = vz (q : Nat) := ⟨_, rfl⟩
              obtain ⟨o2, ho2⟩ : ∃ o2, o2 = o1 ++ vz (zs.length : Nat) := ⟨_, rfl⟩
              obtain ⟨o3, ho3⟩ : ∃ o3, o3 = o2 ++ pk := ⟨_, rfl⟩
              obtain ⟨o4, ho4⟩ : ∃ o4, o4 = o3 ++ zs := ⟨_, rfl⟩
              have l1 : o1.length ≤ 10 := by rw [ho1]; omega
              have l2 : o2.length ≤ 20 := by rw [ho2, List.length_append]; omega
              have l3 : o3.length ≤ 16000021 := by rw [ho3, List.length_append]; omega
              have l4 : o4.length ≤ 28000021 := by rw [ho4, List.length_append]; omega
              have hd4 : dictB L = o4 := by rw [hdict, ho4, ho3, ho2, ho1]; simp only [List.append_assoc]
              rw [hd4] at hbeq hbo
              have HPU := Lib.hid hpu
              have HBEQ := Lib.hid hbeq
              have HBO := Lib.hid hbo
              have HWD := Lib.hid hwd
              have HPK := Lib.hid hpk
              have HPE := Lib.hid hpe
              have HRS := Lib.hid hrs
              have HBW := Lib.hid hbw
              have HPSL := Lib.hid psl
              have HASL := Lib.hid asl
              have HAN := Lib.hid han
              have HO1 := Lib.hid ho1
              have HO2 := Lib.hid ho2
              have HO3 := Lib.hid ho3
              have HO4 := Lib.hid ho4
              clear hpu hbeq hbo hdict hd4 hzs hps hwd hpk hpe hrs hbw psl asl han hin ho1 ho2 ho3 ho4
              go_upto_region 25 with (first
                | (go_at_call 42; (refine (rwidth_calls _ _ (by omega) (by omega)).mono ?_; rintro e w4 ⟨rfl, rfl⟩; rw [← HWD.out]))
                | (go_at_call 41; (refine (rpack_calls _ _ _ _ _ HPSL.out HPU.out wd (by omega)).mono ?_; rintro e w5 hb5; obtain ⟨kv, rfl, ow5, b5⟩ := hb5; rw [← HPE.out]; rw [← HPK.out] at ow5; (have ow5' := ow5); obtain ⟨ka, kc, rfl, ksl, _⟩ := ow5.sl; (have hkn : ka = none → kc = 0 := by rintro rfl; exact ow5'.nil_cap); (have HKN := Lib.hid hkn); (have HKSL := Lib.hid ksl); (have HA5 := Lib.hid (HASL.out.keep b5)); (have B5 := Lib.hid (HBW.out.trans (b5.mono hzw))); (have z5 := B5.out.size); clear ow5 ow5' ksl b5 hkn)))
              go_upto_region 26 with (go_at_call 38; (refine (rput_calls w5 w5.heap.size (Nat.le_refl _) _ [] (Ow.nil _ _ _ _) q (by omega) ⟨#[]⟩ (by show 0 + 0 ≤ _; omega)).mono ?_; rintro e w6 hp; obtain ⟨v6, rfl, ow6, k6⟩ := hp; (have e6 : ([] : List Int) ++ vz (q : Nat) ++ nums (⟨#[]⟩ : ByteArray).data.toList = o1 := by rw [HO1.out]; simp [nums]); rw [e6] at ow6; (have B6 := Lib.hid (Kept.to_below k6 (Nat.le_refl w5.heap.size) (fun k hk => by simp [Value.ownBlock] at hk))); (have z6 := B6.out.size); (have OW6 := Lib.hid ow6); obtain ⟨a6, c6, hv6, _, _⟩ := ow6.sl; subst hv6; clear ow6 k6 e6))
              go_upto_region 27 with (go_at_call 38; (refine (rput_calls w6 w5.heap.size z6 _ o1 OW6.out zs.length (by omega) ⟨#[]⟩ (by show o1.length + 0 ≤ _; omega)).mono ?_; rintro e w7 hp; obtain ⟨v7, rfl, ow7, k7⟩ := hp; (have e7 : o1 ++ vz (zs.length : Nat) ++ nums (⟨#[]⟩ : ByteArray).data.toList = o2 := by rw [HO2.out]; simp [nums]); rw [e7] at ow7; (have B7 := Lib.hid (B6.out.trans (Kept.to_below k7 z6 (fun k hk => (OW6.out.lt k hk).1)))); (have z7 := B7.out.size); (have OW7 := Lib.hid ow7); obtain ⟨a7, c7, hv7, _, _⟩ := ow7.sl; subst hv7; clear ow7 k7 e7))
              go_upto_region 28 with (at_builtin; (refine wpList_appJ rfl (.tmp 118) (.tmp 119) _ rfl .u8 w5.heap.size 5 _ 1 Try.underlying24 Try.infoU8 rfl _ o2 rfl OW7.out _ _ _ _ rfl (HKSL.out.keep B7.out) HKN.out (by omega) (by omega) (by omega) ?_; intro v8 w8 ow8 hg8 st8; rw [← HO3.out] at ow8; (have B8 := Lib.hid (B7.out.trans (Kept.to_below (Kept.of_grown hg8) z7 (fun k hk => (OW7.out.lt k hk).1)))); (have z8 := B8.out.size); (have OW8 := Lib.hid ow8); obtain ⟨a8, c8, hv8, _, _⟩ := ow8.sl; subst hv8; clear ow8 hg8 st8))
              go_upto_region 29 with (at_builtin; (refine wpList_appJ rfl (.tmp 121) (.tmp 122) _ rfl .u8 w5.heap.size 5 _ 1 Try.underlying24 Try.infoU8 rfl _ o3 rfl OW8.out _ _ _ _ rfl (HA5.out.keep B8.out) HAN.out (by omega) (by omega) (by omega) ?_; intro v9 w9 ow9 hg9 st9; rw [← HO4.out] at ow9; (have B9 := Lib.hid (B8.out.trans (Kept.to_below (Kept.of_grown hg9) z8 (fun k hk => (OW8.out.lt k hk).1)))); (have z9 := B9.out.size); (have OW9 := Lib.hid ow9); obtain ⟨a9, c9, hv9, _, _⟩ := ow9.sl; subst hv9; clear ow9 hg9 st9))
              have eb : decide ((67108864 : Int) < (zs.length : Int)) = false := decide_eq_false (by omega)
              by_cases hc : most < o4.length
              · have ec : decide (most < (o4.length : Int)) = true := decide_eq_true hc
                have he1 : buildE L most = 1 := by rw [HBEQ.out, if_pos hc]
                have ho : buildO L most = [] := by rw [HBO.out, he1]; rfl
                have HE1 := Lib.hid he1
                have HO := Lib.hid ho
                clear he1 ho hc
                go_wp2
                go_ret2
                exact ⟨_, by rw [HE1.out]; rfl, by rw [HO.out]; exact Ow.nil _ _ _ _, B5.out.trans (B9.out.mono z5)⟩
              · have ec : decide (most < (o4.length : Int)) = false := decide_eq_false hc
                have he1 : buildE L most = 0 := by rw [HBEQ.out, if_neg hc]
                have ho : buildO L most = o4 := by rw [HBO.out, he1]; rfl
                have HE1 := Lib.hid he1
                have HO := Lib.hid ho
                clear he1 ho hc
                go_wp2
                go_ret2
                exact ⟨_, by rw [HE1.out]; rfl, by rw [HO.out]; exact OW9.out.mono z5, B5.out.trans (B9.out.mono z5)⟩
end Go.Proofs.Ytjgcmnppiaikcaa
