/- VdJ VcD, laid as one. -/
import Derived.Test.YtlhcejbimlilaaaGreatDoorVbB
import Derived.Test.YtlhcejbimlilaaaGreatDoorVaH
import Derived.Test.YtlhcejbimlilaaaGreatDoorVaR
import Derived.Test.YtlhcejbimlilaaaGreatDoorVaJ
import Derived.Test.YtlhcejbimlilaaaGreatDoorVcC
import Derived.Lib.IndexLaws
import Derived.Lib.TrimByte
set_option linter.unusedVariables false
set_option linter.unusedSimpArgs false
/- The document's within, whole. -/
namespace Go.Proofs.YtlhcejbimlilaaaGreatDoor
open Go.RowKit Go.Tk
theorem dec_of_int8 {l : List UInt8} {n : Nm} (h : intP l = some n) : decP l = some n := by
  unfold intP at h
  split at h
  · rename_i hc
    simp only [Bool.and_eq_true] at hc
    have hA : ctA (sgnR l) = sgnR l := by
      have := (ct_app (q := []) hc.2).1
      rw [List.append_nil] at this
      rw [this]; simp [ctA]
    have hB : ctB (sgnR l) = [] := by
      have := (ct_app (q := []) hc.2).2
      rw [List.append_nil] at this
      rw [this]; rfl
    unfold decP okP
    rw [hA, hB, if_pos (by simp only [Bool.and_eq_true, List.append_nil]; exact ⟨⟨hc.2, rfl⟩, hc.1⟩)]
    exact h
  · cases h
theorem int_nan {l : List UInt8} {n : Nm} (h : intP l = some n) : n.nan = false := (nf_int h).1.nan
/-- The document's within, of an integer's text. -/
theorem rwithin_calls (nm lo hi s : ByteArray) (lk : Int) (w : World) {n : Nm} (hn : intP s.data.toList = some n) (hs : s.size ≤ 65536) (hls : lo.size ≤ 100) (hhs : hi.size ≤ 100)
    (hl : lo.data.toList = [] ∨ ∃ l, intP lo.data.toList = some l) (hh : hi.data.toList = [] ∨ ∃ l, intP hi.data.toList = some l) :
    Calls Tryz.prog 72 #[.agg #[.string nm, .int .i64 lk, .string lo, .string hi], .string s] w fun e w' => e = .returned (.bool (witP s.data.toList lo.data.toList hi.data.toList)) ∧ Below w.heap.size w w' := by
  have hw : witP s.data.toList lo.data.toList hi.data.toList = ((decide (lo.data.toList = []) || decide (0 ≤ (agN n (inN lo.data.toList)).1)) && (decide (hi.data.toList = []) || decide ((agN n (inN hi.data.toList)).1 ≤ 0))) := by unfold witP; rw [hn]
  rw [hw]
  have ds := fun w => rdecimal_calls s 0 w (by omega) (by omega) (by omega)
  have dl := fun w => rdecimal_calls lo 0 w (by omega) (by omega) (by omega)
  have dh := fun w => rdecimal_calls hi 0 w (by omega) (by omega) (by omega)
  unfold RdD at ds dl dh
  have en : (decE s.data.toList 0).getD nmZ = n := by show (decP s.data.toList).getD nmZ = n; rw [dec_of_int8 hn]; rfl
  have inD : ∀ {t : ByteArray} {l : Nm}, intP t.data.toList = some l → (decE t.data.toList 0).getD nmZ = l ∧ inN t.data.toList = l := fun {t l} h => ⟨by show (decP t.data.toList).getD nmZ = l; rw [dec_of_int8 h]; rfl, by unfold inN; rw [h]; rfl⟩
  obtain ⟨n1, n2, n3, nd, np, hN⟩ := rnV_ex ((decE s.data.toList 0).getD nmZ)
  obtain ⟨l1, l2, l3, ld, lp, hL⟩ := rnV_ex ((decE lo.data.toList 0).getD nmZ)
  obtain ⟨h1, h2, h3, hd, hp, hH⟩ := rnV_ex ((decE hi.data.toList 0).getD nmZ)
  rw [hN] at ds
  rw [hL] at dl
  rw [hH] at dh
  have ordL : ∀ {l : Nm}, intP lo.data.toList = some l → ∀ w, Calls Tryz.prog 40 #[.agg #[.bool l1, .bool l2, .bool l3, .string ld, .int .i64 lp], .agg #[.bool n1, .bool n2, .bool n3, .string nd, .int .i64 np]] w fun e w' => e = .returned (.int .i64 (agN l n).1) ∧ Below w.heap.size w w' := fun {l} h w => by
    rw [← hL, ← hN, (inD h).1, en]
    exact rorder_nm (dec_dbl (dec_of_int8 h)) (dec_dbl (dec_of_int8 hn)) (int_nan h) (int_nan hn) w
  have ordH : ∀ {l : Nm}, intP hi.data.toList = some l → ∀ w, Calls Tryz.prog 40 #[.agg #[.bool n1, .bool n2, .bool n3, .string nd, .int .i64 np], .agg #[.bool h1, .bool h2, .bool h3, .string hd, .int .i64 hp]] w fun e w' => e = .returned (.int .i64 (agN n l).1) ∧ Below w.heap.size w w' := fun {l} h w => by
    rw [← hH, ← hN, (inD h).1, en]
    exact rorder_nm (dec_dbl (dec_of_int8 hn)) (dec_dbl (dec_of_int8 h)) (int_nan hn) (int_nan h) w
  by_cases el : lo.data.toList = []
  · have elb : (lo.toList == []) = true := by rw [Lib.toList_data, el]; rfl
    rw [decide_eq_true el, Bool.true_or, Bool.true_and]
    by_cases eh : hi.data.toList = []
    · have ehb : (hi.toList == []) = true := by rw [Lib.toList_data, eh]; rfl
      rw [decide_eq_true eh, Bool.true_or]
      exact wi_00 nm lo hi s lk w n1 n2 n3 nd np l1 l2 l3 ld lp h1 h2 h3 hd hp _ _ _ 0 0 elb ehb ds dl dh
    · have ehb : (hi.toList == []) = false := by rw [Lib.toList_data]; exact beq_false_of_ne eh
      obtain ⟨h, hhi⟩ := hh.resolve_left eh
      rw [decide_eq_false eh, Bool.false_or, (inD hhi).2]
      exact wi_01 nm lo hi s lk w n1 n2 n3 nd np l1 l2 l3 ld lp h1 h2 h3 hd hp _ _ _ 0 _ elb ehb ds dl dh (ordH hhi)
  · have elb : (lo.toList == []) = false := by rw [Lib.toList_data]; exact beq_false_of_ne el
    obtain ⟨l, hlo⟩ := hl.resolve_left el
    rw [decide_eq_false el, Bool.false_or, (inD hlo).2]
    have hneg := agN_neg n l
    by_cases hc : (agN l n).1 ≤ 0
    · have hc2 : 0 ≤ (agN n l).1 := by rw [hneg] at hc; dsimp only at hc; omega
      rw [decide_eq_true hc2, Bool.true_and]
      by_cases eh : hi.data.toList = []
      · have ehb : (hi.toList == []) = true := by rw [Lib.toList_data, eh]; rfl
        rw [decide_eq_true eh, Bool.true_or]
        exact wi_10 nm lo hi s lk w n1 n2 n3 nd np l1 l2 l3 ld lp h1 h2 h3 hd hp _ _ _ _ 0 elb ehb hc ds dl dh (ordL hlo)
      · have ehb : (hi.toList == []) = false := by rw [Lib.toList_data]; exact beq_false_of_ne eh
        obtain ⟨h, hhi⟩ := hh.resolve_left eh
        rw [decide_eq_false eh, Bool.false_or, (inD hhi).2]
        exact wi_11 nm lo hi s lk w n1 n2 n3 nd np l1 l2 l3 ld lp h1 h2 h3 hd hp _ _ _ _ _ elb ehb hc ds dl dh (ordL hlo) (ordH hhi)
    · have hc2 : ¬ 0 ≤ (agN n l).1 := by rw [hneg] at hc; dsimp only at hc; omega
      rw [decide_eq_false hc2, Bool.false_and]
      exact wi_1x nm lo hi s lk w n1 n2 n3 nd np l1 l2 l3 ld lp h1 h2 h3 hd hp _ _ _ _ 0 elb (by omega) ds dl dh (ordL hlo)
end Go.Proofs.YtlhcejbimlilaaaGreatDoor
/- Bytes as texts: hexBinary, base64Binary: one text for each value; truth. Plain. -/
namespace Go.Tk
open Go Go.RowKit
theorem gtC_idem (c : UInt8) : gtC (gtC c) = gtC c := by
  unfold gtC
  by_cases h : 97 ≤ c.toNat ∧ c.toNat ≤ 122
  · rw [if_pos h]
    have h32 : (32 : UInt8).toNat = 32 := rfl
    have e : (c - 32).toNat = c.toNat - 32 := by rw [UInt8.toNat_sub_of_le _ _ (UInt8.le_iff_toNat_le.2 (by rw [h32]; omega)), h32]
    rw [if_neg (by rw [e]; omega)]
  · rw [if_neg h, if_neg h]
theorem gtP_idem (l : List UInt8) : gtP (gtP l) = gtP l := by
  unfold gtP
  rw [List.map_map]
  congr 1
  funext c
  exact gtC_idem c
theorem idx_inj {l : List UInt8} {a b : UInt8} (h : 0 ≤ Lib.indexByte l a) (he : Lib.indexByte l a = Lib.indexByte l b) : a = b := by
  obtain ⟨o, ho⟩ : ∃ o : Nat, Lib.indexByte l a = o := ⟨(Lib.indexByte l a).toNat, by omega⟩
  have h1 := (Lib.indexByte_some ho).1
  have h2 := (Lib.indexByte_some (he.symm.trans ho)).1
  rw [h1] at h2
  exact (Option.some.inj h2)
theorem ofNat_inj {a b : Nat} (ha : a < 256) (hb : b < 256) (h : UInt8.ofNat a = UInt8.ofNat b) : a = b := by
  have := congrArg UInt8.toNat h
  rwa [UInt8.toNat_ofNat_of_lt' (by simpa using ha), UInt8.toNat_ofNat_of_lt' (by simpa using hb)] at this
theorem hxV_lt (c : UInt8) : hxV c < 16 := by
  have := indexByte_lt hxT c
  have e : hxT.length = 16 := rfl
  rw [e] at this
  exact this
theorem hex_inj : ∀ (x y o : List UInt8), hexP x = some o → hexP y = some o → x = y
  | [], [], _, _, _ => rfl
  | [], [_], _, _, h => by cases h
  | [], a :: b :: t, o, h1, h2 => by
    simp only [hexP] at h1 h2
    split at h2
    · cases h2
    · obtain ⟨z, _, hz⟩ := Option.map_eq_some_iff.1 h2
      rw [← hz] at h1; cases h1
  | [_], _, _, h, _ => by cases h
  | a :: b :: t, [], o, h1, h2 => by
    simp only [hexP] at h1 h2
    split at h1
    · cases h1
    · obtain ⟨z, _, hz⟩ := Option.map_eq_some_iff.1 h1
      rw [← hz] at h2; cases h2
  | _ :: _ :: _, [_], _, _, h => by cases h
  | a :: b :: t, a' :: b' :: t', o, h1, h2 => by
    simp only [hexP] at h1 h2
    split at h1
    · cases h1
    split at h2
    · cases h2
    rename_i c1 c2
    obtain ⟨z, e1, hz⟩ := Option.map_eq_some_iff.1 h1
    obtain ⟨z', e2, hz'⟩ := Option.map_eq_some_iff.1 h2
    rw [← hz'] at hz
    obtain ⟨hb, rfl⟩ := List.cons.inj hz
    have p1 := hxV_lt a
    have p2 := hxV_lt b
    have p3 := hxV_lt a'
    have p4 := hxV_lt b'
    have hq := ofNat_inj (by omega) (by omega) hb
    have ea : a = a' := idx_inj (l := hxT) (show 0 ≤ hxV a by omega) (show hxV a = hxV a' by omega)
    have eb : b = b' := idx_inj (l := hxT) (show 0 ≤ hxV b by omega) (show hxV b = hxV b' by omega)
    rw [ea, eb, hex_inj t t' _ e1 e2]
/-- Six bits a sign: the signs of as many are told by the bytes and what is left. -/
theorem b6F_inj : ∀ (l m : List UInt8) (B C H : Nat) (r : Nat × List UInt8), l.length = m.length → (H = 0 ∨ H = 2 ∨ H = 4 ∨ H = 6) → B < 2 ^ H → C < 2 ^ H → b6F B H l = some r → b6F C H m = some r → B = C ∧ l = m
  | [], [], B, C, H, r, _, _, _, _, h1, h2 => by
    simp only [b6F] at h1 h2
    rw [← h1] at h2
    have := (Prod.mk.inj (Option.some.inj h2)).1
    exact ⟨this.symm, rfl⟩
  | [], _ :: _, _, _, _, _, h, _, _, _, _, _ => by simp at h
  | _ :: _, [], _, _, _, _, h, _, _, _, _, _ => by simp at h
  | c :: t, d :: u, B, C, H, r, hl, hH, hB, hC, h1, h2 => by
    have hl' : t.length = u.length := by simpa using hl
    simp only [b6F] at h1 h2
    split at h1
    · cases h1
    split at h2
    · cases h2
    rename_i c1 c2
    have p1 := b6V_bd c
    have p2 := b6V_bd d
    have fin : B * 64 + (b6V c).toNat = C * 64 + (b6V d).toNat → t = u → B = C ∧ c :: t = d :: u := fun e ht => by
      have ev : b6V c = b6V d := by omega
      have ec : c = d := idx_inj (l := b6T) (show 0 ≤ b6V c by omega) ev
      exact ⟨by omega, by rw [ec, ht]⟩
    by_cases h2H : 2 ≤ H
    · rw [if_pos h2H] at h1 h2
      obtain ⟨q, e1, hq⟩ := Option.map_eq_some_iff.1 h1
      obtain ⟨q', e2, hq'⟩ := Option.map_eq_some_iff.1 h2
      rw [← hq'] at hq
      have a1 := (Prod.mk.inj hq).1
      obtain ⟨a2, a3⟩ := List.cons.inj (Prod.mk.inj hq).2
      have eqq : q = q' := Prod.ext a1 a3
      subst eqq
      have hpos : 0 < 2 ^ (H - 2) := Nat.two_pow_pos _
      obtain ⟨b1, b2⟩ := b6F_inj t u _ _ (H - 2) q hl' (by omega) (Nat.mod_lt _ hpos) (Nat.mod_lt _ hpos) e1 e2
      have hby : (B * 64 + (b6V c).toNat) / 2 ^ (H - 2) = (C * 64 + (b6V d).toNat) / 2 ^ (H - 2) := by
        refine ofNat_inj ?_ ?_ a2
        · rw [Nat.div_lt_iff_lt_mul hpos]
          rcases hH with rfl | rfl | rfl | rfl
          · omega
          · simp at hB ⊢; omega
          · simp at hB ⊢; omega
          · simp at hB ⊢; omega
        · rw [Nat.div_lt_iff_lt_mul hpos]
          rcases hH with rfl | rfl | rfl | rfl
          · omega
          · simp at hC ⊢; omega
          · simp at hC ⊢; omega
          · simp at hC ⊢; omega
      refine fin ?_ b2
      rw [← Nat.div_add_mod (B * 64 + (b6V c).toNat) (2 ^ (H - 2)), hby, b1, Nat.div_add_mod]
    · rw [if_neg h2H] at h1 h2
      have h0 : H = 0 := by omega
      subst h0
      simp at hB hC
      subst hB hC
      obtain ⟨b1, b2⟩ := b6F_inj t u _ _ 6 r hl' (by omega) (by simp; omega) (by simp; omega) h1 h2
      exact fin b1 b2
theorem b6F_len : ∀ (l : List UInt8) (B H : Nat) (r : Nat × List UInt8), (H = 0 ∨ H = 2 ∨ H = 4 ∨ H = 6) → b6F B H l = some r → r.2.length = (H + 6 * l.length) / 8
  | [], B, H, r, hH, h => by
    simp only [b6F] at h
    obtain rfl := Option.some.inj h
    simp only [List.length_nil]
    omega
  | c :: t, B, H, r, hH, h => by
    simp only [b6F] at h
    split at h
    · cases h
    split at h
    · obtain ⟨q, e1, rfl⟩ := Option.map_eq_some_iff.1 h
      have := b6F_len t _ (H - 2) q (by omega) e1
      simp only [List.length_cons]
      omega
    · have := b6F_len t _ (H + 6) r (by omega) h
      simp only [List.length_cons]
      omega
/-- What is cut from the end is signs =. -/
theorem tre_app (l : List UInt8) : ∃ k, l = tre l ++ List.replicate k 61 := by
  have h := List.takeWhile_append_dropWhile (p := fun c : UInt8 => c == 61) (l := l.reverse)
  have ha : ∀ c ∈ l.reverse.takeWhile (fun c : UInt8 => c == 61), c = 61 := fun c hc => by
    have := List.all_eq_true.1 (List.all_takeWhile (p := fun c : UInt8 => c == 61) (l := l.reverse)) c hc
    simpa using this
  obtain ⟨k, hk⟩ : ∃ k, l.reverse.takeWhile (fun c : UInt8 => c == 61) = List.replicate k 61 := ⟨_, List.eq_replicate_of_mem ha⟩
  rw [hk] at h
  refine ⟨k, ?_⟩
  have h2 := congrArg List.reverse h
  rw [List.reverse_append, List.reverse_replicate, List.reverse_reverse] at h2
  exact h2.symm
theorem b6_inj {x y : List UInt8} (h1 : (b6R x).2 = true) (h2 : (b6R y).2 = true) (h : (b6R x).1 = (b6R y).1) : x = y := by
  have key : ∀ {x : List UInt8}, (b6R x).2 = true → x.length % 4 = 0 ∧ x.length - (tre x).length ≤ 2 ∧ b6F 0 0 (tre x) = some (0, (b6R x).1) := fun {x} h => by
    unfold b6R at h ⊢
    split at h
    · cases h
    split at h
    · cases h
    rename_i c1 c2
    rw [if_neg c1, if_neg c2]
    refine ⟨by omega, by omega, ?_⟩
    cases hb : b6F 0 0 (tre x) with
    | none => rw [hb] at h; cases h
    | some q =>
      rw [hb] at h
      obtain ⟨z, o⟩ := q
      have : z = 0 := by simpa [b6E] using h
      rw [this]; rfl
  obtain ⟨a1, a2, a3⟩ := key h1
  obtain ⟨b1, b2, b3⟩ := key h2
  rw [← h] at b3
  have l1 := b6F_len _ 0 0 _ (.inl rfl) a3
  have l2 := b6F_len _ 0 0 _ (.inl rfl) b3
  obtain ⟨k, hk⟩ := tre_app x
  obtain ⟨j, hj⟩ := tre_app y
  have m1 := congrArg List.length hk
  have m2 := congrArg List.length hj
  rw [List.length_append, List.length_replicate] at m1 m2
  have l1' : (b6R x).1.length = (0 + 6 * (tre x).length) / 8 := l1
  have l2' : (b6R x).1.length = (0 + 6 * (tre y).length) / 8 := l2
  have r1 : (tre x).length % 4 = 0 ∨ (tre x).length % 4 = 2 ∨ (tre x).length % 4 = 3 := by omega
  have r2 : (tre y).length % 4 = 0 ∨ (tre y).length % 4 = 2 ∨ (tre y).length % 4 = 3 := by omega
  have hlen : (tre x).length = (tre y).length := by
    generalize (tre x).length = p at *
    generalize (tre y).length = q at *
    clear hk hj m1 m2 a1 a2 b1 b2 l1 l2 a3 b3
    rcases r1 with r1 | r1 | r1 <;> rcases r2 with r2 | r2 | r2 <;> omega
  have hkj : k = j := by omega
  obtain ⟨_, e⟩ := b6F_inj _ _ 0 0 0 _ hlen (.inl rfl) (by decide) (by decide) a3 b3
  rw [hk, hj, e, hkj]
theorem truP_idem (l : List UInt8) : truP (truP l) = truP l := by
  unfold truP
  split
  · rfl
  · rfl
theorem boo_tru (l : List UInt8) : booP (truP l) = true := by
  unfold truP
  split <;> rfl
end Go.Tk
