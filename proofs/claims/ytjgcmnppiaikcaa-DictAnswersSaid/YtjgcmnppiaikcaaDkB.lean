/- dict.Build of texts that are few. -/
import Derived.Test.YtjgcmnppiaikcaaDkP
import Derived.Test.YtjgcmnppiaikcaaBitsBuf4
import Derived.Outline
import Derived.Deep.Cut
set_option linter.unusedVariables false
set_option linter.unusedSimpArgs false
namespace Go.Tk
open Go Go.RowKit
theorem extract_drop (s : ByteArray) (n : Nat) : s.extract n s.size = ⟨(s.data.toList.drop n).toArray⟩ := by
  rw [Lib.extract_eq, List.take_of_length_le (by rw [List.length_drop, ← Lib.size_eq]; omega)]
end Go.Tk
namespace Go.Proofs.Ytjgcmnppiaikcaa
open Go.RowKit Go.Tk
theorem alikeB_calls (w : World) (s t : ByteArray) (hs : s.size ≤ 1000000000000000) (ht : t.size ≤ 1000000000000000) :
    Calls Try.prog 34 #[.string s, .string t] w fun e w' => e = .returned (.int .i64 (comN s.data.toList t.data.toList : Nat)) ∧ ∃ m, w' = w.drewN m :=
  alike_calls w s.data.toList t.data.toList (by rw [← Lib.size_eq]; exact hs) (by rw [← Lib.size_eq]; exact ht)
theorem putF_fit {m : Int} {zs ns : List Int} (h : (zs.length : Int) + ns.length ≤ m) : putF m (zs, false) ns = (zs ++ ns, false) := by
  unfold putF
  simp only [Bool.false_eq_true, if_false]
  rw [if_neg (by omega)]
theorem putF_no {m : Int} {zs ns : List Int} (h : m < (zs.length : Int) + ns.length) : putF m (zs, false) ns = (zs, true) := by
  unfold putF
  simp only [Bool.false_eq_true, if_false]
  rw [if_pos (by omega)]
theorem putF_full {m : Int} {zs ns : List Int} : putF m (zs, true) ns = (zs, true) := by unfold putF; simp
theorem putF_len {m : Int} {st : List Int × Bool} {ns : List Int} : (putF m st ns).1.length ≤ st.1.length + ns.length := by
  unfold putF
  split
  · omega
  · split
    · simp
    · simp
theorem putF4 {M : Int} {A B C D : List Int} (h : ((A ++ (B ++ (C ++ D))).length : Int) ≤ M) : putF M (putF M (putF M (putF M ([], false) A) B) C) D = (A ++ (B ++ (C ++ D)), false) := by
  simp only [List.length_append] at h
  rw [putF_fit (by simp; omega), putF_fit (by simp; omega), putF_fit (by simp; omega), putF_fit (by simp; omega)]
  simp
theorem putF4_no {M : Int} {A B C D : List Int} (h : M < ((A ++ (B ++ (C ++ D))).length : Int)) : (putF M (putF M (putF M (putF M ([], false) A) B) C) D).2 = true := by
  simp only [List.length_append] at h
  by_cases h1 : M < A.length
  · rw [putF_no (by simp; omega), putF_full, putF_full, putF_full]
  · rw [putF_fit (zs := []) (by simp; omega)]
    by_cases h2 : M < A.length + B.length
    · rw [putF_no (by simp; omega), putF_full, putF_full]
    · rw [putF_fit (by simp; omega)]
      by_cases h3 : M < A.length + B.length + C.length
      · rw [putF_no (by simp; omega), putF_full]
      · rw [putF_fit (by simp; omega), putF_no (by simp; omega)]
theorem packOut_len (zs : List Int) (wd : Int) : (packOut zs wd).length ≤ 8 * zs.length + 1 := by
  unfold packOut
  split
  · next h =>
    rw [packTo_len]
    have h1 : 0 ≤ wd ∧ wd ≤ 64 := by
      unfold packOk at h
      rw [Bool.and_eq_true] at h
      simpa using h.1
    have h2 : zs.length * wd.toNat ≤ zs.length * 64 := Nat.mul_le_mul_left _ (by omega)
    omega
  · simp
theorem OwC.mono {k : IntKind} {e : TypeId} {base base' : Nat} {w : World} {v : Value} {zs : List Int} (h : OwC k e base w v zs) (hb : base' ≤ base) : OwC k e base' w v zs := by
  obtain ⟨a, c, e1, h⟩ := h
  exact ⟨a, c, e1, h.mono hb⟩
theorem OwC.slN {k : IntKind} {e : TypeId} {base : Nat} {w : World} {v : Value} {zs : List Int} (h : OwC k e base w v zs) : ∃ a, v = .slice a zs.length zs.length ∧ SlI k w a zs.length zs.length zs ∧ (a = none → zs.length = 0) := by
  obtain ⟨a, hv, hs⟩ := h.sl
  refine ⟨a, hv, hs, ?_⟩
  rintro rfl
  obtain ⟨a', c, e1, h2⟩ := h
  rw [hv] at e1
  have e2 : a' = none := by injection e1 with e1; exact e1.symm
  subst e2
  have := h2.nil_cap
  have := h2.max
  omega
/-- The buffer of the whole. -/
theorem put2 {n1 : Nat} {w : World} {b : Nat} {M : Int} {st st' : List Int × Bool} {v : Value} (h : BufB w n1 b M st v) (hn : n1 ≤ w.heap.size) {e : Ending} {w' : World} (hp : PutBufB w n1 b M st' v e w') : ∃ v', e = .returned (.tuple #[]) ∧ BufB w' n1 b M st' v' ∧ Below n1 w w' := by
  obtain ⟨v', he, hB, hK, _⟩ := hp
  exact ⟨v', he, hB, Kept.below hK hn (fun k hk => (h.lt k hk).1)⟩
/-- The buffer of the entries, and the places. -/
structure BS (n0 : Nat) (w : World) (b : Nat) (zs : List Int) (v pv : Value) (ps : List Int) : Prop where
  B : BufB w n0 b 67108864 (zs, false) v
  P : Ow .u64 62 n0 w pv ps
  D : ∀ k, Fp b v k → pv.ownBlock ≠ some k
theorem Kept.to_below {S : Nat → Prop} {a b : World} (h : Kept S a b) {n0 : Nat} (hB : n0 ≤ a.heap.size) (hS : ∀ k, S k → n0 ≤ k) : Below n0 a b := Kept.below h hB hS
theorem BS.put {n0 : Nat} {w : World} {b : Nat} {zs : List Int} {v pv : Value} {ps : List Int} (h : BS n0 w b zs v pv ps) (hn : n0 ≤ w.heap.size) {ns : List Int} (hfit : (zs.length : Int) + ns.length ≤ 67108864) {e : Ending} {w' : World}
    (hp : PutBufB w n0 b 67108864 (putF 67108864 (zs, false) ns) v e w') : ∃ v', e = .returned (.tuple #[]) ∧ BS n0 w' b (zs ++ ns) v' pv ps ∧ Below n0 w w' := by
  obtain ⟨v', he, hB, hK, hS⟩ := hp
  rw [putF_fit hfit] at hB
  refine ⟨v', he, ⟨hB, h.P.kept2 hK (fun g hg hf => h.D g hf hg), fun k hk hpk => ?_⟩, Kept.to_below hK hn (fun k hk => (h.B.lt k hk).1)⟩
  have hkl := (h.P.lt k hpk).2
  rcases hk with rfl | hk
  · exact h.D _ (.inl rfl) hpk
  · rcases hS with e | ⟨g, e, hg⟩
    · exact h.D k (.inr (by rw [← e]; exact hk)) hpk
    · rw [e] at hk; have := Option.some.inj hk; omega
theorem BS.kept {n0 : Nat} {w : World} {b : Nat} {zs : List Int} {v pv : Value} {ps : List Int} (h : BS n0 w b zs v pv ps) {w' : World} (hk : Kept (fun _ => False) w w') : BS n0 w' b zs v pv ps :=
  ⟨h.B.kept hk (fun _ _ h => h), h.P.kept2 hk (fun _ _ h => h), h.D⟩
theorem BS.app {n0 : Nat} {w : World} {b : Nat} {zs : List Int} {v pv : Value} {ps : List Int} (h : BS n0 w b zs v pv ps) {w' : World} {pv' : Value} {ps' : List Int}
    (ho : Ow .u64 62 n0 w' pv' ps') (hg : w.grownBy w' pv.ownBlock) (hs : OwnStep w pv pv') : BS n0 w' b zs v pv' ps' := by
  refine ⟨h.B.kept (Kept.of_grown hg) (fun k hk hp => h.D k hk hp), ho, fun k hk hpk => ?_⟩
  have hkl := (h.B.lt k hk).2
  rcases hs with e | ⟨g, e, hg2⟩
  · rw [e] at hpk; exact h.D k hk hpk
  · rw [e] at hpk; have := Option.some.inj hpk; omega
set_option maxRecDepth 100000 in
set_option maxHeartbeats 4000000 in
theorem dbuild_calls (w : World) (a : Option Addr) (n c : Nat) (L : List (List UInt8)) (h : SlS w a n c L) (ht : TxtOk L) (hf : tot L ≤ 2000000) (most : Int) (hm : -9223372036854775808 ≤ most ∧ most ≤ 9223372036854775807) :
    Calls Try.prog 11 #[.slice a n c, .int .i64 most] w fun e w' => ∃ v, e = .returned (.tuple #[v, .int .i64 (buildE L most)]) ∧ OwC .u8 5 w.heap.size w' v (buildO L most) ∧ Below w.heap.size w w' := by
  have hle := h.le
  have hmx := h.max
  have hnL := tot_len L
  have hn2 : n ≤ 2000000 := by rw [← h.len]; omega
  have HT := Lib.hid ht
  have HS := Lib.hid h
  have HL := Lib.hid h.len
  have HF := Lib.hid hf
  clear h ht hf hnL
  obtain ⟨E, hE⟩ : ∃ E, E = chkE L := ⟨_, rfl⟩
  have HE := Lib.hid hE
  clear hE
  by_cases hE0 : E = 0
  rotate_left
  · have e1 : (E != 0) = true := by simp [hE0]
    have hbe : buildE L most = E := by unfold buildE; rw [← HE.out, if_pos hE0]
    have hbo : buildO L most = [] := by unfold buildO; rw [hbe, if_neg hE0]
    have HBE := Lib.hid hbe
    have HBO := Lib.hid hbo
    clear hbe hbo hE0
    go_enter Try.func11, Try.ntmps11
    go_wp2_with (go_at_call 29; refine (check_calls _ _ _ _ _ HS.out HT.out (by omega)).mono ?_; rintro e w' ⟨rfl, m, rfl⟩; rw [← HE.out])
    go_ret2
    exact ⟨_, by rw [HBE.out]; rfl, by rw [HBO.out]; exact ⟨none, 0, rfl, Ow.nil _ _ _ _⟩, below_drewN (Below.refl _ _) _⟩
  · have e1 : (E != 0) = false := by simp [hE0]
    have hlong : ∀ i, i < L.length → (L.getD i []).length ≤ 262144 := fun i hi => by
      have h0 := HE.out
      rw [hE0] at h0
      refine Decidable.byContradiction fun hb => ?_
      have := long_yes hi (by omega)
      unfold chkE at h0
      rw [if_pos this] at h0
      omega
    have HLG := Lib.hid hlong
    have HE0 := Lib.hid hE0
    clear hlong hE0
    go_enter Try.func11, Try.ntmps11
    go_wp2_with (first
      | (go_at_call 29; refine (check_calls _ _ _ _ _ HS.out HT.out (by omega)).mono ?_; rintro e w1 ⟨rfl, m, hm1⟩; rw [← HE.out]; (have z1 : w1.heap.size = w.heap.size := by rw [hm1]; rfl); (have B1 : Below w.heap.size w w1 := by rw [hm1]; exact below_drewN (Below.refl _ w) m); clear hm1)
      | (go_at_call 30; refine (new_calls _ w.heap.size (by omega) 67108864 (by omega) (by omega)).mono ?_; rintro e w2 ⟨rfl, hb2, hk2⟩; rw [z1] at hb2; rw [z1]))
    rw [show max (67108864 : Int) 0 = 67108864 from rfl] at hb2
    have hbs : BS w.heap.size w2 w.heap.size [] (.slice none 0 0) (.slice none 0 0) [] := ⟨hb2, Ow.nil _ _ _ _, fun k _ hk => by simp [Value.ownBlock] at hk⟩
    have hB2 : Below w.heap.size w w2 := B1.trans (Kept.to_below hk2 (by omega) (fun _ h => h.elim))
    have HBS := Lib.hid hbs
    have HB2 := Lib.hid hB2
    clear hb2 hk2 hbs hB2
    go_loopw [8, 25] (fun pv iv wr => ∃ (i : Nat) (v : Value), iv = .int .i64 (i : Nat) ∧ i ≤ n ∧ BS w.heap.size wr w.heap.size (areaN L i) v pv (placN L i) ∧ Below w.heap.size w wr) (fun _ iv _ => n - (intOf iv).toNat)
    case atStart => exact ⟨0, _, rfl, Nat.zero_le _, HBS.out, HB2.out⟩
    case round =>
      obtain ⟨i, v, rfl, hi, hbs, hbw⟩ := hrel
      have hzw := hbw.size
      have hal := area_small HLG.out HF.out i (by rw [HL.out]; exact hi)
      by_cases hlt : i < n
      · obtain ⟨bb, bo, rfl, hc⟩ := (HS.out.keep hbw).cell i hlt
        have hsz := HLG.out i (by rw [HL.out]; exact hlt)
        obtain ⟨s, hs⟩ : ∃ s : ByteArray, s = ⟨(L.getD i []).toArray⟩ := ⟨_, rfl⟩
        rw [← hs] at hc
        have hsd : s.data.toList = L.getD i [] := by rw [hs]
        have hss : s.size = (L.getD i []).length := by rw [Lib.size_eq, hsd]
        have hs18 : s.size ≤ 262144 := by rw [hss]; exact hsz
        have HSD := Lib.hid hsd
        have HSS := Lib.hid hss
        obtain ⟨zs, hzs⟩ : ∃ zs, zs = areaN L i := ⟨_, rfl⟩
        obtain ⟨ps, hps⟩ : ∃ ps, ps = placN L i := ⟨_, rfl⟩
        rw [← hzs] at hbs hal
        rw [← hps] at hbs
        have hpl : ps.length ≤ 2000000 := by rw [hps]; have := plac_len L i; omega
        have HZS := Lib.hid hzs
        have HPS := Lib.hid hps
        have HBS := Lib.hid hbs
        have HBW := Lib.hid hbw
        clear hs hsd hss hsz hzs hps hbs hbw
        have v1 := vz_len (s.size : Nat)
        by_cases h16 : i % 16 = 0
        · have e16 : ((i : Int) % 16) = 0 := by omega
          have hent : entB L i = vz (s.size : Nat) ++ nums s.data.toList := by unfold entB; rw [if_pos h16, HSD.out, HSS.out]
          have HENT := Lib.hid hent
          have H16 := Lib.hid h16
          clear hent h16
          go_wp2_with (first
            | (go_at_call 31; refine (len_calls _ _ _ _ _ _ HBS.out.B).mono ?_; rintro e w3 ⟨rfl, rfl⟩)
            | (at_builtin; (refine wpList_appJ rfl (.tmp 33) (.tmp 37) _ rfl .u64 w.heap.size 62 _ 8 Try.underlying75 Try.infoU64 rfl _ ps rfl (HBS.out.P.alloc _) _ 1 1 _ rfl (SlI.one _ _ _ _) (by simp) (by omega) (by omega) (by simp; omega) ?_; intro pv' w4 ow4 hg4 st4; (have hk0 : Kept (fun _ => False) wr (wr.alloc (.cells #[.int .u64 (zs.length : Nat)] 62)) := (Kept.refl _ _).alloc _); (have bs4 := (HBS.out.kept hk0).app ow4 hg4 st4); (have b4 : Below w.heap.size w w4 := (HBW.out.trans (Kept.to_below hk0 hzw (fun _ h => h.elim))).trans (Kept.to_below (Kept.of_grown hg4) (by simp; omega) (fun k hk => (HBS.out.P.lt k hk).1))); (have BS4 := Lib.hid bs4); (have B4 := Lib.hid b4); (have z4 := b4.size); clear ow4 hg4 st4 hk0 bs4 b4))
            | (go_at_call 32; refine (varint_calls _ _ _ _ _ _ BS4.out.B _ (by omega) (by omega) (by omega) (by omega) (by (try simp only [List.length_append]); omega)).mono ?_; rintro e w5 hp; obtain ⟨vw5, rfl, bsw5, bw5⟩ := BS4.out.put (by omega) (by (try simp only [List.length_append]); omega) hp; (have Bw5 := Lib.hid (B4.out.trans bw5)); (have zw5 := Bw5.out.size); (have BSw5 := Lib.hid bsw5); clear hp bsw5 bw5)
            | (refine wpList_toBytes rfl (.tmp 45) 9 24 rfl _ rfl 5 Try.underlying9 Try.underlying24 Try.underlying5 (by omega) ?_; intro w6 cw6 hslw6 hzw6 hgw6; (have kw6 : Kept (fun _ => False) w5 w6 := (Kept.of_grown hgw6).mono (fun k h => by cases h)); (have BSw6 := Lib.hid (BSw5.out.kept kw6)); (have Bw6 := Lib.hid (Bw5.out.trans (Kept.to_below kw6 (by omega) (fun _ h => h.elim)))); (have zw6 := Bw6.out.size); (have HSLw6 := Lib.hid hslw6); clear hslw6 hzw6 hgw6 kw6)
            | (go_at_call 33; refine (raw_calls _ _ _ _ _ _ BSw6.out.B _ _ _ _ HSLw6.out (fun e => by cases e) (by omega) (by omega) (by (try simp only [List.length_append]); omega)).mono ?_; rintro e w7 hp; obtain ⟨vw7, rfl, bsw7, bw7⟩ := BSw6.out.put (by omega) (by simp only [List.length_append, nums_len, ← Lib.size_eq]; omega) hp; (have Bw7 := Lib.hid (Bw6.out.trans bw7)); (have zw7 := Bw7.out.size); (have BSw7 := Lib.hid bsw7); clear hp bsw7 bw7))
          refine ⟨⟨i + 1, vw7, by go_num, by omega, ?_, Bw7.out⟩, by simp [intOf]; omega⟩
          have hA : areaN L (i + 1) = zs ++ vz (s.size : Nat) ++ nums s.data.toList := by simp only [areaN]; rw [← HZS.out, HENT.out, List.append_assoc]
          have hP : placN L (i + 1) = ps ++ [(zs.length : Int)] := by simp only [placN]; rw [if_pos H16.out, ← HPS.out, ← HZS.out]
          rw [hA, hP]
          exact BSw7.out
        · have e16 : ((i : Int) % 16 == 0) = false := by rw [beq_eq_false_iff_ne]; omega
          have hi1 : 1 ≤ i := by omega
          obtain ⟨b', o', he', hc'⟩ := (HS.out.keep HBW.out).cell (i - 1) (by omega)
          have hea : (⟨bb, bo, none⟩ : Addr) = ⟨b', o', none⟩ := Option.some.inj he'
          injection hea with e1' e2'
          subst e1' e2'
          obtain ⟨i1, hi1e⟩ : ∃ i1 : Nat, i1 = i - 1 := ⟨_, rfl⟩
          obtain ⟨t, ht⟩ : ∃ t : ByteArray, t = ⟨(L.getD (i - 1) []).toArray⟩ := ⟨_, rfl⟩
          rw [← ht] at hc'
          have htd : t.data.toList = L.getD (i - 1) [] := by rw [ht]
          have hts : t.size ≤ 262144 := by rw [Lib.size_eq, htd]; exact HLG.out _ (by rw [HL.out]; omega)
          rw [← hi1e] at hc'
          have hk5 : (i : Int) - 1 = (i1 : Int) := by omega
          have hk6 : i1 < n := by omega
          have hk7 : IntKind.i64.wrap (i1 : Int) = (i1 : Int) := by rw [IntKind.wrap_i64]; omega
          obtain ⟨cn, hcn⟩ : ∃ cn, cn = comN t.data.toList s.data.toList := ⟨_, rfl⟩
          have hcl := (comN_le t.data.toList s.data.toList).2
          rw [← hcn, ← Lib.size_eq] at hcl
          have hent : entB L i = vz (cn : Nat) ++ (vz ((s.size - cn : Nat) : Int) ++ nums (s.data.toList.drop cn)) := by
            unfold entB; rw [if_neg h16, ← htd, ← HSD.out, ← hcn, ← Lib.size_eq]
          have hsub : (s.size : Int) - (cn : Int) = ((s.size - cn : Nat) : Int) := by omega
          obtain ⟨u, hu⟩ : ∃ u : ByteArray, u = s.extract cn s.size := ⟨_, rfl⟩
          have hud : u.data.toList = s.data.toList.drop cn := by rw [hu, extract_drop]
          have hus : u.size ≤ 262144 := by rw [Lib.size_eq, hud, List.length_drop, ← Lib.size_eq]; omega
          have v2 := vz_len (cn : Nat)
          have v3 := vz_len ((s.size - cn : Nat) : Int)
          obtain ⟨dn, hdn⟩ : ∃ dn : Nat, dn = s.size - cn := ⟨_, rfl⟩
          have hdb : dn ≤ 262144 := by omega
          rw [← hdn] at hsub hent v3
          have HENT := Lib.hid hent
          have H16 := Lib.hid h16
          have HCN := Lib.hid hcn
          have hu2 : s.extract cn s.size = u := hu.symm
          have HUD := Lib.hid hud
          have HTD := Lib.hid htd
          clear hent h16 hcn htd ht he' hud hi1e hdn hu
          go_wp2_with (first
            | (go_at_call 34; refine (alikeB_calls _ t s (by omega) (by omega)).mono ?_; rintro e w3 ⟨rfl, m3, hm3⟩; rw [← HCN.out]; (have k3 : Kept (fun _ => False) wr w3 := by rw [hm3]; exact (Kept.refl _ _).drewN _); (have BS3 := Lib.hid (HBS.out.kept k3)); (have B3 := Lib.hid (HBW.out.trans (Kept.to_below k3 (by omega) (fun _ h => h.elim)))); (have z3 := B3.out.size); clear hm3 k3)
            | (go_at_call 32; refine (varint_calls _ _ _ _ _ _ BS3.out.B _ (by omega) (by omega) (by omega) (by omega) (by (try simp only [List.length_append]); omega)).mono ?_; rintro e w4 hp; obtain ⟨vw4, rfl, bsw4, bw4⟩ := BS3.out.put (by omega) (by (try simp only [List.length_append]); omega) hp; (have Bw4 := Lib.hid (B3.out.trans bw4)); (have zw4 := Bw4.out.size); (have BSw4 := Lib.hid bsw4); clear hp bsw4 bw4)
            | (go_at_call 32; refine (varint_calls _ _ _ _ _ _ BSw4.out.B _ (by omega) (by omega) (by omega) (by omega) (by (try simp only [List.length_append]); omega)).mono ?_; rintro e w5 hp; obtain ⟨vw5, rfl, bsw5, bw5⟩ := BSw4.out.put (by omega) (by (try simp only [List.length_append]); omega) hp; (have Bw5 := Lib.hid (Bw4.out.trans bw5)); (have zw5 := Bw5.out.size); (have BSw5 := Lib.hid bsw5); clear hp bsw5 bw5)
            | (refine wpList_toBytes rfl (.tmp 69) 9 24 rfl _ rfl 5 Try.underlying9 Try.underlying24 Try.underlying5 (by omega) ?_; intro w6 cw6 hslw6 hzw6 hgw6; (have kw6 : Kept (fun _ => False) w5 w6 := (Kept.of_grown hgw6).mono (fun k h => by cases h)); (have BSw6 := Lib.hid (BSw5.out.kept kw6)); (have Bw6 := Lib.hid (Bw5.out.trans (Kept.to_below kw6 (by omega) (fun _ h => h.elim)))); (have zw6 := Bw6.out.size); (have HSLw6 := Lib.hid hslw6); clear hslw6 hzw6 hgw6 kw6)
            | (go_at_call 33; refine (raw_calls _ _ _ _ _ _ BSw6.out.B _ _ _ _ HSLw6.out (fun e => by cases e) (by omega) (by omega) (by (try simp only [List.length_append]); omega)).mono ?_; rintro e w7 hp; obtain ⟨vw7, rfl, bsw7, bw7⟩ := BSw6.out.put (by omega) (by simp only [List.length_append, nums_len, ← Lib.size_eq]; omega) hp; (have Bw7 := Lib.hid (Bw6.out.trans bw7)); (have zw7 := Bw7.out.size); (have BSw7 := Lib.hid bsw7); clear hp bsw7 bw7))
          refine ⟨⟨i + 1, vw7, by go_num, by omega, ?_, Bw7.out⟩, by simp [intOf]; omega⟩
          have hA : areaN L (i + 1) = zs ++ vz (cn : Nat) ++ vz (dn : Nat) ++ nums u.data.toList := by simp only [areaN]; rw [← HZS.out, HENT.out, HUD.out]; simp only [List.append_assoc]
          have hP : placN L (i + 1) = ps := by simp only [placN]; rw [if_neg H16.out, ← HPS.out]
          rw [hA, hP]
          exact BSw7.out
      · obtain rfl : i = n := by omega
        have hin : L.length = i := HL.out
        have hpl : (placN L i).length ≤ 2000000 := by have := plac_len L i; omega
        have hpu : U64 (placN L i) := fun k hk => by
          have := plac_u64 HLG.out HF.out i (by omega) ((placN L i)[k]) (List.getElem_mem hk)
          simpa [hk] using this
        have hbeq : buildE L most = if most < (dictB L).length then 1 else 0 := by unfold buildE; rw [← HE.out, HE0.out]; rfl
        have hdict : dictB L = vz (i : Nat) ++ (vz ((areaN L i).length : Nat) ++ (packOut (placN L i) (bw ((areaN L i).length : Nat)) ++ areaN L i)) := by unfold dictB packD widthD; rw [hin]
        have hbo : buildO L most = if buildE L most = 0 then dictB L else [] := rfl
        obtain ⟨zs, hzs⟩ : ∃ zs, zs = areaN L i := ⟨_, rfl⟩
        obtain ⟨ps, hps⟩ : ∃ ps, ps = placN L i := ⟨_, rfl⟩
        rw [← hzs, ← hps] at hbs hdict
        rw [← hzs] at hal
        rw [← hps] at hpl hpu
        obtain ⟨wd, hwd⟩ : ∃ wd, wd = bw (zs.length : Nat) := ⟨_, rfl⟩
        rw [← hwd] at hdict
        obtain ⟨pk, hpk⟩ : ∃ pk, pk = packOut ps wd := ⟨_, rfl⟩
        have hpkl : pk.length ≤ 16000001 := by rw [hpk]; have := packOut_len ps wd; omega
        rw [← hpk] at hdict
        obtain ⟨pa, pc, hpv, psl, _⟩ := hbs.P.sl
        subst hpv
        obtain ⟨pe, hpe⟩ : ∃ pe, pe = packErr ps wd := ⟨_, rfl⟩
        obtain ⟨M, hM⟩ : ∃ M, M = max most 0 := ⟨_, rfl⟩
        have hM0 : 0 ≤ M := by omega
        have hM1 : M ≤ 9223372036854775807 := by omega
        have hMm : most < (dictB L).length ↔ M < (dictB L).length := by
          have : 1 ≤ (dictB L).length := by rw [hdict]; have := vz_len (i : Nat); simp only [List.length_append]; omega
          omega
        have hbeq : buildE L most = if M < (dictB L).length then 1 else 0 := by
          rw [hbeq]
          by_cases h : M < (dictB L).length
          · rw [if_pos h, if_pos (hMm.2 h)]
          · rw [if_neg h, if_neg (fun x => h (hMm.1 x))]
        have v1 := vz_len (i : Nat)
        have v2 := vz_len (zs.length : Nat)
        obtain ⟨st1, hst1⟩ : ∃ st, st = putF M ([], false) (vz (i : Nat)) := ⟨_, rfl⟩
        have l1 : st1.1.length ≤ 10 := by rw [hst1]; have := putF_len (m := M) (st := ([], false)) (ns := vz (i : Nat)); simp only [List.length_nil] at this; omega
        obtain ⟨st2, hst2⟩ : ∃ st, st = putF M st1 (vz (zs.length : Nat)) := ⟨_, rfl⟩
        have l2 : st2.1.length ≤ 20 := by rw [hst2]; have := putF_len (m := M) (st := st1) (ns := vz (zs.length : Nat)); omega
        obtain ⟨st3, hst3⟩ : ∃ st, st = putF M st2 pk := ⟨_, rfl⟩
        have l3 : st3.1.length ≤ 16000021 := by rw [hst3]; have := putF_len (m := M) (st := st2) (ns := pk); omega
        obtain ⟨st4, hst4⟩ : ∃ st, st = putF M st3 zs := ⟨_, rfl⟩
        have l4 : st4.1.length ≤ 28000021 := by rw [hst4]; have := putF_len (m := M) (st := st3) (ns := zs); omega
        have hfin : (buildE L most = if st4.2 = true then 1 else 0) ∧ buildO L most = if st4.2 = true then [] else st4.1 := by
          rw [hbo, hbeq, hst4, hst3, hst2, hst1]
          by_cases hc : M < (dictB L).length
          · rw [if_pos hc]
            rw [hdict] at hc
            rw [putF4_no hc]
            exact ⟨rfl, rfl⟩
          · rw [if_neg hc]
            rw [hdict] at hc ⊢
            rw [putF4 (by omega)]
            exact ⟨rfl, rfl⟩
        obtain ⟨fe, hfe⟩ : ∃ fe : Int, fe = (if st4.2 = true then 1 else 0) := ⟨_, rfl⟩
        rw [← hfe] at hfin
        have HFE := Lib.hid hfe
        have HFIN := Lib.hid hfin
        have HM := Lib.hid hM
        have HST1 := Lib.hid hst1
        have HST2 := Lib.hid hst2
        have HST3 := Lib.hid hst3
        have HST4 := Lib.hid hst4
        clear hfin hfe hM hst1 hst2 hst3 hst4 hMm
        have HPU := Lib.hid hpu
        have HBEQ := Lib.hid hbeq
        have HBO := Lib.hid hbo
        have HDICT := Lib.hid hdict
        have HWD := Lib.hid hwd
        have HPK := Lib.hid hpk
        have HPE := Lib.hid hpe
        have HBS := Lib.hid hbs
        have HBW := Lib.hid hbw
        have HPSL := Lib.hid psl
        clear hpu hbeq hbo hdict hzs hps hwd hpk hpe hbs hbw psl hin
        go_upto_region 23 with (first
          | (go_at_call 35; (refine (bytes_calls _ _ _ _ _ _ HBS.out.B (by show zs.length ≤ _; omega)).mono ?_; rintro e w3 hb3; obtain ⟨ev, rfl, ow3, k3⟩ := hb3; simp only [Bool.false_eq_true, if_false] at ow3 ⊢; obtain ⟨ea, rfl, esl, hen⟩ := OwC.slN ow3; (have HEN := Lib.hid hen); (have HESL := Lib.hid esl); (have BS3 := Lib.hid (HBS.out.kept k3)); (have B3 := Lib.hid (HBW.out.trans (Kept.to_below k3 (by omega) (fun _ h => h.elim)))); (have z3 := B3.out.size); (have HP3 := Lib.hid (HPSL.out.kept k3 (fun _ _ h => h))); clear ow3 k3 esl hen))
          | (go_at_call 37; refine (width_calls _ _ (by omega) (by omega)).mono ?_; rintro e w4 ⟨rfl, rfl⟩; rw [← HWD.out])
          | (go_at_call 36; refine (pack_calls _ _ _ _ _ HP3.out HPU.out wd (by omega)).mono ?_; rintro e w5 hb5; obtain ⟨kv, rfl, ow5, b5⟩ := hb5; rw [← HPE.out]; rw [← HPK.out] at ow5; (have ow5' := ow5); obtain ⟨ka, kc, rfl, ksl, _⟩ := ow5.sl; (have hkn : ka = none → kc = 0 := by rintro rfl; exact ow5'.nil_cap); (have HKN := Lib.hid hkn); (have HKSL := Lib.hid ksl); (have HE5 := Lib.hid (HESL.out.keep b5)); (have B5 := Lib.hid (B3.out.trans (b5.mono z3))); (have z5 := B5.out.size); clear ow5 ow5' ksl b5 hkn)
          | (go_at_call 30; refine (new_calls w5 w5.heap.size (Nat.le_refl _) most hm.1 hm.2).mono ?_; rintro e w6 ⟨rfl, bb6, k6⟩; rw [← HM.out] at bb6; (have c6 := Kept.to_below k6 (Nat.le_refl _) (fun _ h => h.elim)); (have BB6 := Lib.hid bb6); (have C6 := Lib.hid c6); (have z6 := c6.size); clear bb6 k6 c6))
        go_upto_region 24 with (go_at_call 32; (refine (varint_calls _ _ _ _ _ _ BB6.out (i : Nat) (by omega) (by omega) hM0 hM1 (by show (0 : Nat) + 10 ≤ _; omega)).mono ?_; rintro e w7 hp; rw [← HST1.out] at hp; obtain ⟨v7, rfl, bb7, c7⟩ := put2 BB6.out (by omega) hp; (have BB7 := Lib.hid bb7); (have C7 := Lib.hid (C6.out.trans c7)); (have z7 := C7.out.size); clear hp bb7 c7))
        go_upto_region 25 with (go_at_call 32; (refine (varint_calls _ _ _ _ _ _ BB7.out (zs.length : Nat) (by omega) (by omega) hM0 hM1 (by omega)).mono ?_; rintro e w8 hp; rw [← HST2.out] at hp; obtain ⟨v8, rfl, bb8, c8⟩ := put2 BB7.out (by omega) hp; (have BB8 := Lib.hid bb8); (have C8 := Lib.hid (C7.out.trans c8)); (have z8 := C8.out.size); clear hp bb8 c8))
        go_upto_region 26 with (go_at_call 33; (refine (raw_calls _ _ _ _ _ _ BB8.out _ _ _ _ (HKSL.out.keep C8.out) HKN.out hM0 hM1 (by omega)).mono ?_; rintro e w9 hp; rw [← HST3.out] at hp; obtain ⟨v9, rfl, bb9, c9⟩ := put2 BB8.out (by omega) hp; (have BB9 := Lib.hid bb9); (have C9 := Lib.hid (C8.out.trans c9)); (have z9 := C9.out.size); clear hp bb9 c9))
        go_upto_region 27 with (go_at_call 33; (refine (raw_calls _ _ _ _ _ _ BB9.out _ _ _ _ (HE5.out.keep C9.out) HEN.out hM0 hM1 (by omega)).mono ?_; rintro e w10 hp; rw [← HST4.out] at hp; obtain ⟨v10, rfl, bb10, c10⟩ := put2 BB9.out (by omega) hp; (have BB10 := Lib.hid bb10); (have C10 := Lib.hid (C9.out.trans c10)); (have z10 := C10.out.size); clear hp bb10 c10))
        go_wp2_with (go_at_call 35; (refine (bytes_calls _ _ _ _ _ _ BB10.out (by omega)).mono ?_; rintro e w11 hb11; obtain ⟨v11, rfl, ow11, k11⟩ := hb11; rw [← HFE.out]; (have OW11 := Lib.hid ow11); (have C11 := Lib.hid (C10.out.trans (Kept.to_below k11 (by omega) (fun _ h => h.elim)))); clear ow11 k11))
        go_ret2
        refine ⟨v11, by rw [HFIN.out.1]; rfl, ?_, B5.out.trans (C11.out.mono z5)⟩
        rw [HFIN.out.2]
        exact OwC.mono OW11.out (by omega)
end Go.Proofs.Ytjgcmnppiaikcaa
