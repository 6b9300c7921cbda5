/- An entry of a dictionary, of any bytes. -/
import Derived.Test.YtjgcmnppiaikcaaDoorDkD
import Derived.Test.YtjgcmnppiaikcaaDoorDkB
import Derived.Laws.Concat
import Derived.Outline
import Derived.Deep.Cut
import Derived.BigQuiet
import Derived.Deep.QuietTactic
set_option linter.unusedVariables false
set_option linter.unusedSimpArgs false
namespace Go.Tk
open Go Go.RowKit
theorem SlI.bytesD {P : Program} {w : World} {src e dst : TypeId} {a : Option Addr} {c : Nat} {b : List UInt8} (hs : P.underlying src = some (.slice e)) (he : P.underlying e = some (.int .u8)) (hd : P.underlying dst = some .string)
    (h : SlI .u8 w a b.length c (nums b)) : (convert src dst (.slice a b.length c)).run P w = .ok (.string ⟨b.toArray⟩) w := by
  by_cases hb : b = []
  · subst hb
    cases a with
    | none => exact run_convert_bytes_nil w src e hs he 0 c dst hd
    | some x => exact run_convert_bytes_back w src dst e x c [] hs he hd (fun j hj => by simp at hj)
  · have h0 : 0 < b.length := List.length_pos_iff.2 hb
    obtain ⟨g, o, rfl, _⟩ := h.cell 0 h0
    refine run_convert_bytes_back w src dst e ⟨g, o, none⟩ c b hs he hd fun j hj => ?_
    obtain ⟨g', o', he', hc⟩ := h.cell j hj
    obtain ⟨rfl, rfl⟩ : g = g' ∧ o = o' := by simpa using he'
    rw [Addr.add_lit, hc, nums_getD b j hj]
theorem nums_u8 (b : List UInt8) : ∀ x ∈ nums b, 0 ≤ x ∧ x < 256 := by
  intro x hx
  simp only [nums, List.mem_map] at hx
  obtain ⟨y, _, rfl⟩ := hx
  have := y.toNat_lt
  omega
theorem bits_or_u64 (x y : Int) : 0 ≤ bits .or .u64 x y ∧ bits .or .u64 x y < 18446744073709551616 := by
  show 0 ≤ IntKind.u64.wrap _ ∧ IntKind.u64.wrap _ < _
  rw [IntKind.wrap_u64]
  omega
theorem wrap64_small {m : Nat} (h : m ≤ 262144) : wrap64 (m : Int) = (m : Int) := by unfold wrap64; omega
theorem nb1 {a b : Nat} (h : (b : Int) ≤ (a : Int)) : b ≤ a := by omega
theorem nb2 {b : Nat} (h : (b : Int) ≤ 262144) : b ≤ 262144 := by omega
theorem nb3 {a b : Nat} (h : (a : Int) + (b : Int) ≤ 262144) : a ≤ 262144 := by omega
theorem nb4 {a b c : Nat} (h : a + b ≤ c) (h2 : c ≤ 67108864) : a ≤ 67108864 := by omega
theorem nb5 {a b c : Nat} (h : a ≤ 67108864) (h2 : a = b + c) : c ≤ 67108864 := by omega
theorem nb6 (F MO : Nat) : F + MO - F = MO := by omega
theorem nb7 {b : List UInt8} {F MO : Nat} (h : F + MO ≤ b.length) : ((b.drop F).take MO).length = MO := by simp only [List.length_take, List.length_drop]; omega
theorem nb9 {n : Nat} (h : n ≤ 262144) : (n : Int) ≤ 8388608 := by omega
theorem nb8 {l : List UInt8} {n : Nat} (h : n ≤ 262144) : ((l.take n).length : Int) ≤ 8388608 := by simp only [List.length_take]; omega
theorem nbw {F M : Nat} (h : F ≤ 67108864) (h2 : M ≤ 262144) : IntKind.i64.wrap ((F : Int) + (M : Int)) = ((F + M : Nat) : Int) := by
  rw [IntKind.wrap_i64]; omega
theorem nbw1 {M : Nat} (h : M ≤ 262144) : IntKind.i64.wrap (M : Int) = (M : Int) := by
  rw [IntKind.wrap_i64]; omega
theorem extract_takeD (s : ByteArray) (n : Nat) : s.extract 0 n = ⟨(s.data.toList.take n).toArray⟩ := by
  rw [Lib.extract_eq]; simp
end Go.Tk
namespace Go.Proofs.YtjgcmnppiaikcaaDoor
open Go.RowKit Go.Tk
theorem pk_range (l : List Int) : 0 ≤ (pk l).1 ∧ (pk l).1 < 18446744073709551616 := by
  have key : ∀ (l : List Int) (i : Nat) (n : Int), 0 ≤ (pkF l i n).1 ∧ (pkF l i n).1 < 18446744073709551616 := by
    intro l
    induction l with
    | nil => intro i n; simp [pkF]
    | cons b r ih =>
      intro i n
      simp only [pkF]
      split
      · simp
      · split
        · exact bits_or_u64 _ _
        · exact ih _ _
  exact key l 0 0
abbrev mxU : Int := 18446744073709551615
theorem ups_range (z : List Int) (i : Nat) (e : Int) (hi : i ≤ z.length) : (0 ≤ (upS z i e mxU).1 ∧ (upS z i e mxU).1 < 18446744073709551616) ∧ i ≤ (upS z i e mxU).2.1 ∧ (upS z i e mxU).2.1 ≤ z.length := by
  have h1 := pk_range (z.drop i)
  obtain ⟨k, hk1, hk2, _, _⟩ := pkF_len (z.drop i) 0 0
  have hk : (pk (z.drop i)).2.1 = k := hk1
  rw [List.length_drop] at hk2
  unfold upS
  split
  · refine ⟨by simp, by simp, by simpa using hi⟩
  · split
    · refine ⟨by simp, by simp, by simpa using hi⟩
    · split
      · refine ⟨by simp, by simp, by simpa using hi⟩
      · refine ⟨h1, by simp, ?_⟩
        simp only [hk, Int.toNat_natCast]
        omega
/-- The entry at a place behind another one: the text, the place behind it, what is wrong. -/
def entP (eb : List UInt8) (p : Int) (first : Bool) (last : List UInt8) : List UInt8 × Int × Int :=
  if p < 0 ∨ (eb.length : Int) < p then ([], 0, 10) else
  let z := nums (eb.drop p.toNat)
  let t1 : Int × Nat × Int := if first = true then (0, 0, 0) else upS z 0 0 mxU
  if t1.2.2 ≠ 0 then ([], 0, t1.2.2) else
  let t2 := upS z t1.2.1 0 mxU
  if t2.2.2 ≠ 0 then ([], 0, t2.2.2) else
  if (last.length : Int) < t1.1 then ([], 0, 161) else
  if 262144 < t2.1 ∨ 262144 < t1.1 + t2.1 then ([], 0, 2) else
  if (z.length : Int) - t2.2.1 < t2.1 then ([], 0, 10) else
  (last.take t1.1.toNat ++ ((eb.drop p.toNat).drop t2.2.1).take t2.1.toNat, p + t2.2.1 + t2.1, 0)
theorem rdC_calls (w : World) (a : Option Addr) (n c : Nat) (z : List Int) (h : SlI .u8 w a n c z) (hn : a = none → c = 0) (ha : ∀ x, a = some x → x.block < w.heap.size) :
    Calls Tryd.prog 27 #[.slice a n c] w fun e w' => e = .returned (.pointer (some ⟨w.heap.size, 0, none⟩)) ∧ CurC w' w.heap.size a c z 0 0 ∧ Kept (fun _ => False) w w' := by
  obtain rfl := h.len
  have hk : Kept (fun _ => False) w (w.alloc (.cells #[.slice a z.length c, .int .i64 0, .int .i64 0] 96)) := (Kept.refl _ w).alloc _
  have hC : CurC (w.alloc (.cells #[.slice a z.length c, .int .i64 0, .int .i64 0] 96)) w.heap.size a c z 0 0 := by
    refine ⟨heap_alloc_new w _, h.kept hk (fun _ _ h => h), hn, (fun x hx => by have := ha x hx; omega), Nat.zero_le _⟩
  have HC := Lib.hid hC
  have HK := Lib.hid hk
  clear hC hk
  go_enter Tryd.func27, Tryd.ntmps27
  go_wp2
  go_ret
  exact ⟨rfl, HC.out, HK.out⟩
set_option maxRecDepth 100000 in
set_option maxHeartbeats 4000000 in
theorem entry_calls (w : World) (gd n wd : Nat) (pa : Option Addr) (pc : Nat) (pz : List Int) (ea : Option Addr) (ec : Nat) (eb : List UInt8) (h : DictM w gd n wd pa pc pz ea ec (nums eb)) (p : Int) (hp : -9223372036854775808 ≤ p ∧ p ≤ 9223372036854775807) (first : Bool) (last : ByteArray) (hl : last.size ≤ 262144) :
    Calls Tryd.prog 16 #[.pointer (some ⟨gd, 0, none⟩), .int .i64 p, .bool first, .string last] w fun e w' =>
      e = .returned (.tuple #[.string ⟨(entP eb p first last.data.toList).1.toArray⟩, .int .i64 (entP eb p first last.data.toList).2.1, .int .i64 (entP eb p first last.data.toList).2.2]) ∧ Below w.heap.size w w' := by
  have c3 := h.c3
  have heN := h.eN
  rw [nums_len] at heN
  have hecl := h.es.le
  have hecm := h.es.max
  by_cases hbad : p < 0 ∨ (eb.length : Int) < p
  · have he : entP eb p first last.data.toList = ([], 0, 10) := by unfold entP; rw [if_pos hbad]
    have HE := Lib.hid he
    rw [nums_len] at c3 hecl
    clear he h
    by_cases hp0 : p < 0
    · have e0 : decide (p < 0) = true := decide_eq_true hp0
      clear hbad
      go_enter Tryd.func16, Tryd.ntmps16
      go_wp2
      go_ret3
      exact ⟨by rw [HE.out]; rfl, Below.refl _ _⟩
    · have e0 : decide (p < 0) = false := decide_eq_false hp0
      have e1 : decide ((eb.length : Int) < p) = true := decide_eq_true (by omega)
      clear hbad
      go_enter Tryd.func16, Tryd.ntmps16
      go_wp2
      go_ret3
      exact ⟨by rw [HE.out]; rfl, Below.refl _ _⟩
  · obtain ⟨P, hP⟩ : ∃ P : Nat, p = (P : Int) := ⟨p.toNat, by omega⟩
    subst hP
    have hPl : P ≤ eb.length := by omega
    have e0 : decide ((P : Int) < 0) = false := decide_eq_false (by omega)
    have e1 : decide ((eb.length : Int) < (P : Int)) = false := decide_eq_false (by omega)
    have htl := SlI.tail h.es P (by rw [nums_len]; exact hPl)
    rw [nums_drop, nums_len] at htl
    rw [nums_len] at c3 hecl
    obtain ⟨zb, hzb⟩ : ∃ zb, zb = eb.drop P := ⟨_, rfl⟩
    have hzl : zb.length = eb.length - P := by rw [hzb, List.length_drop]
    rw [← hzb, ← hzl] at htl
    obtain ⟨A, hA⟩ : ∃ A, A = (if ec = P then ea else Option.map (fun x => x.add P) ea) := ⟨_, rfl⟩
    rw [← hA] at htl
    obtain ⟨c2, hc2⟩ : ∃ c2, c2 = ec - P := ⟨_, rfl⟩
    rw [← hc2] at htl
    have hAn : A = none → c2 = 0 := fun h0 => by
      rw [hA] at h0
      split at h0
      · have := h.en h0; omega
      · cases ea with
        | none => have := h.en rfl; omega
        | some x => simp at h0
    have hAb : ∀ x, A = some x → x.block < w.heap.size := fun x hx => by
      rw [hA] at hx
      split at hx
      · exact h.ebk x hx
      · cases ea with
        | none => simp at hx
        | some y =>
          simp at hx
          have := h.ebk y rfl
          rw [← hx]
          unfold Addr.add
          split <;> exact this
    have hsub : eb.length - P = zb.length := hzl.symm
    have e1n : decide (eb.length < P) = false := decide_eq_false (by omega)
    clear hzl
    have HTL := Lib.hid htl
    have HAN := Lib.hid hAn
    have HAB := Lib.hid hAb
    have HD := Lib.hid h
    have hA' := hA.symm
    have hc2' := hc2.symm
    have HZB := Lib.hid hzb
    clear htl hAn hAb hbad h hzb hA hc2
    go_enter Tryd.func16, Tryd.ntmps16
    go_upto_region 4 with (go_at_call 27; go_loud (refine (rdC_calls _ _ _ _ _ HTL.out HAN.out HAB.out).mono ?_; rintro e w1 ⟨rfl, hC, k1⟩; (have HC1 := Lib.hid hC); (have B1 := Lib.hid (Kept.to_below k1 (Nat.le_refl w.heap.size) (fun _ h => h.elim))); (have z1 := k1.size); clear hC k1))
    obtain ⟨z, hz⟩ : ∃ z, z = nums zb := ⟨_, rfl⟩
    have hzl : z.length = zb.length := by rw [hz, nums_len]
    have hzu : ∀ x ∈ z, 0 ≤ x ∧ x < 256 := by rw [hz]; exact nums_u8 zb
    obtain ⟨t1, ht1⟩ : ∃ t1 : Int × Nat × Int, t1 = (if first = true then (0, 0, 0) else upS z 0 0 mxU) := ⟨_, rfl⟩
    have hr1 : (0 ≤ t1.1 ∧ t1.1 < 18446744073709551616) ∧ t1.2.1 ≤ z.length := by
      rw [ht1]
      split
      · simp
      · have := ups_range z 0 0 (Nat.zero_le _); exact ⟨this.1, this.2.2⟩
    obtain ⟨sh, i1, er1⟩ := t1
    simp only at hr1
    obtain ⟨⟨hs0, hs1⟩, hi1⟩ := hr1
    have HZU := Lib.hid hzu
    have HT1 := Lib.hid ht1
    have hC1 := HC1.out
    rw [← hz] at hC1
    have HC := Lib.hid hC1
    have HZ := Lib.hid hz
    have HZL := Lib.hid hzl
    clear hzu ht1 HC1 hC1 hz hzl
    go_upto_if 36 with fail
    go_cut [12] from 37 (fun s12 wx => s12 = .int .u64 sh ∧ CurC wx w.heap.size A c2 z i1 er1 ∧ Below w.heap.size w wx)
    case first =>
      cases first with
      | true =>
        have h1 := HT1.out
        rw [if_pos rfl] at h1
        simp only [Prod.mk.injEq] at h1
        obtain ⟨rfl, rfl, rfl⟩ := h1
        go_wp2
        go_meet
        exact ⟨rfl, HC.out, B1.out⟩
      | false =>
        have h1 := HT1.out
        rw [if_neg (by simp)] at h1
        have H1 := Lib.hid h1
        clear h1
        go_wp2_with (go_at_call 29; go_loud (refine (cvarint_calls w1 _ _ _ _ _ _ HC.out HZU.out).mono ?_; rw [← H1.out]; rintro e w2 ⟨rfl, hC2, k2⟩; (have HC2 := Lib.hid hC2); (have B2 := Lib.hid (B1.out.trans (Kept.to_below k2 z1 (fun k hk => by omega)))); clear hC2 k2))
        go_meet
        exact ⟨rfl, HC2.out, B2.out⟩
    case rest =>
      obtain ⟨rfl, hC, hb⟩ := hcut
      generalize wc = w2 at hC hb ⊢
      have HC2 := Lib.hid hC
      have B2 := Lib.hid hb
      have z2 := hb.size
      clear hC hb HC B1
      have hent : entP eb P first last.data.toList = (if er1 ≠ 0 then ([], 0, er1) else
          if (upS z i1 0 mxU).2.2 ≠ 0 then ([], 0, (upS z i1 0 mxU).2.2) else
          if (last.size : Int) < sh then ([], 0, 161) else
          if 262144 < (upS z i1 0 mxU).1 ∨ 262144 < sh + (upS z i1 0 mxU).1 then ([], 0, 2) else
          if (zb.length : Int) - (upS z i1 0 mxU).2.1 < (upS z i1 0 mxU).1 then ([], 0, 10) else
          (last.data.toList.take sh.toNat ++ (zb.drop (upS z i1 0 mxU).2.1).take (upS z i1 0 mxU).1.toNat, P + (upS z i1 0 mxU).2.1 + (upS z i1 0 mxU).1, 0)) := by
        unfold entP
        rw [if_neg (by omega)]
        simp only [Int.toNat_natCast]
        rw [← HZB.out, ← HZ.out, ← HT1.out, HZL.out, ← Lib.size_eq]
      have HENT := Lib.hid hent
      clear hent
      by_cases he1 : er1 = 0
      rotate_left
      · have ee : (er1 != 0) = true := by simp [he1]
        have he := HENT.out
        rw [if_pos he1] at he
        have HE := Lib.hid he
        clear he he1
        go_wp2_with (go_at_call 30; refine (err_calls w2 _ _ _ _ _ _ HC2.out).mono ?_; rintro e w3 ⟨rfl, rfl⟩)
        go_ret3
        exact ⟨by rw [HE.out]; rfl, B2.out⟩
      · subst he1
        have hr2 := ups_range z i1 0 hi1
        have he := HENT.out
        rw [if_neg (by simp)] at he
        obtain ⟨t2, ht2⟩ : ∃ t2, t2 = upS z i1 0 mxU := ⟨_, rfl⟩
        rw [← ht2] at hr2 he
        obtain ⟨mo, i2, er2⟩ := t2
        simp only at hr2 he
        obtain ⟨⟨hm0, hm1⟩, hi12, hi2⟩ := hr2
        have HT2 := Lib.hid ht2
        have HE := Lib.hid he
        clear ht2 he HENT
        go_upto_region 10 with (go_at_call 30; refine (err_calls w2 _ _ _ _ _ _ HC2.out).mono ?_; rintro e w3 ⟨rfl, rfl⟩)
        go_upto_region 11 with (go_at_call 29; go_loud (refine (cvarint_calls _ _ _ _ _ _ _ HC2.out HZU.out).mono ?_; rw [← HT2.out]; rintro e w4 ⟨rfl, hC4, k4⟩; (have HC4 := Lib.hid hC4); (have B4 := Lib.hid (B2.out.trans (Kept.to_below k4 (by omega) (fun k hk => by omega)))); (have z4 := B4.out.size); clear hC4 k4))
        go_upto_region 12 with (go_at_call 30; refine (err_calls w4 _ _ _ _ _ _ HC4.out).mono ?_; rintro e w5 ⟨rfl, rfl⟩)
        by_cases he2 : er2 = 0
        rotate_left
        · have ee : (er2 != 0) = true := by simp [he2]
          have he := HE.out
          rw [if_pos he2] at he
          have HE2 := Lib.hid he
          clear he he2
          go_wp2
          go_ret3
          exact ⟨by rw [HE2.out]; rfl, B4.out⟩
        subst he2
        have he := HE.out
        rw [if_neg (by simp)] at he
        by_cases hsh : (last.size : Int) < sh
        · rw [if_pos hsh] at he
          have ee : decide ((last.size : Int) < sh) = true := decide_eq_true hsh
          have HE2 := Lib.hid he
          clear he
          go_wp2
          go_ret3
          exact ⟨by rw [HE2.out]; rfl, B4.out⟩
        have es : decide ((last.size : Int) < sh) = false := decide_eq_false hsh
        rw [if_neg hsh] at he
        by_cases hmo : 262144 < mo
        · rw [if_pos (.inl hmo)] at he
          have em : decide ((262144 : Int) < mo) = true := decide_eq_true hmo
          have HE2 := Lib.hid he
          clear he
          go_wp2
          go_ret3
          exact ⟨by rw [HE2.out]; rfl, B4.out⟩
        have em : decide ((262144 : Int) < mo) = false := decide_eq_false hmo
        by_cases hsm : 262144 < sh + mo
        · rw [if_pos (.inr hsm)] at he
          have em2 : decide ((262144 : Int) < sh + mo) = true := decide_eq_true hsm
          have HE2 := Lib.hid he
          clear he
          go_wp2
          go_ret3
          exact ⟨by rw [HE2.out]; rfl, B4.out⟩
        have em2 : decide ((262144 : Int) < sh + mo) = false := decide_eq_false hsm
        rw [if_neg (by omega)] at he
        have hzl2 : z.length = zb.length := HZL.out
        have hlc : ∀ X m, X = w4.drewN m → Below w.heap.size w X := fun X m hX => by rw [hX]; exact below_drewN B4.out m
        have HLC := Lib.hid hlc
        clear hlc
        by_cases hlf : (zb.length : Int) - i2 < mo
        · rw [if_pos hlf] at he
          have ef : decide ((zb.length : Int) - (i2 : Int) < mo) = true := decide_eq_true hlf
          have HE2 := Lib.hid he
          clear he
          go_wp2_with (go_at_call 34; go_loud (refine (left_calls w4 _ _ _ _ _ _ HC4.out).mono ?_; rw [hzl2]; rintro e w6 ⟨rfl, m6, hm6⟩; (have B6 := Lib.hid (HLC.out _ _ hm6)); clear hm6))
          go_ret3
          exact ⟨by rw [HE2.out]; rfl, B6.out⟩
        · rw [if_neg hlf] at he
          have ef : decide ((zb.length : Int) - (i2 : Int) < mo) = false := decide_eq_false hlf
          have HE2 := Lib.hid he
          clear he
          go_upto_region 20 with (go_at_call 34; go_loud (refine (left_calls w4 _ _ _ _ _ _ HC4.out).mono ?_; rw [hzl2]; rintro e w6 ⟨rfl, m6, hm6⟩; (have B6 := Lib.hid (HLC.out _ _ hm6)); (have HC6 : Hid (CurC w6 w.heap.size A c2 z i2 0) := Lib.hid (by rw [hm6]; exact HC4.out.drewN m6)); clear hm6))
          obtain ⟨SH, hSH⟩ : ∃ SH : Nat, sh = (SH : Int) := ⟨sh.toNat, by omega⟩
          obtain ⟨MO, hMO⟩ : ∃ MO : Nat, mo = (MO : Int) := ⟨mo.toNat, by omega⟩
          subst hSH hMO
          have hD6 := HD.out.keep B6.out
          have c3' := hD6.c3
          rw [nums_len] at c3'
          obtain ⟨F, hF⟩ : ∃ F, F = P + i2 := ⟨_, rfl⟩
          have hFi : (P : Int) + (i2 : Int) = (F : Int) := by omega
          have hFl : F + MO ≤ eb.length := by omega
          have hSl : SH ≤ last.size := nb1 hsh
          have hMb : MO ≤ 262144 := nb2 hmo
          have hSb : SH ≤ 262144 := nb3 hsm
          have hPb : P ≤ 67108864 := Nat.le_trans hPl heN
          have hFb : F ≤ 67108864 := nb4 hFl heN
          have hi2b : i2 ≤ 67108864 := nb5 hFb hF
          have hmw : wrap64 (MO : Int) = (MO : Int) := wrap64_small hMb
          have hct := SlI.cut hD6.es F MO (by rw [nums_len]; exact hFl)
          rw [nums_drop, nums_take, nb6 F MO] at hct
          obtain ⟨A4, hA4⟩ : ∃ A4, A4 = (if ec = F then ea else Option.map (fun x => x.add F) ea) := ⟨_, rfl⟩
          rw [← hA4] at hct
          obtain ⟨ub, hub⟩ : ∃ ub, ub = (eb.drop F).take MO := ⟨_, rfl⟩
          have hubl : ub.length = MO := by rw [hub]; exact nb7 hFl
          rw [← hub] at hct
          have hub2 : ub = (zb.drop i2).take MO := by rw [hub, HZB.out, List.drop_drop, hF]
          obtain ⟨lx, hlx⟩ : ∃ lx : ByteArray, lx = last.extract 0 SH := ⟨_, rfl⟩
          have hlx2 : lx = ⟨(last.data.toList.take SH).toArray⟩ := by rw [hlx, extract_takeD]
          have hcv : ∀ m, (convert 22 9 (.slice A4 MO (ec - F))).run Tryd.prog (w6.drewN m) = .ok (.string ⟨ub.toArray⟩) (w6.drewN m) := fun m => by
            have h6 := hct.drewN m
            rw [← hubl] at h6 ⊢
            exact SlI.bytesD Tryd.underlying22 Tryd.underlying5 Tryd.underlying9 h6
          have hadd : ∀ X : World, (Op.stringOp .add lx ⟨ub.toArray⟩).run Tryd.prog X = .ok (.string ⟨(last.data.toList.take SH ++ ub).toArray⟩) X := fun X => by
            rw [hlx2]
            exact run_string_add_lists (P := Tryd.prog) (w := X) _ _ (nb8 hSb) (by rw [hubl]; exact nb9 hMb)
          obtain ⟨uy, huy⟩ : ∃ uy : ByteArray, uy = ⟨ub.toArray⟩ := ⟨_, rfl⟩
          rw [← huy] at hcv hadd
          obtain ⟨xy, hxy⟩ : ∃ xy : ByteArray, xy = ⟨(last.data.toList.take SH ++ ub).toArray⟩ := ⟨_, rfl⟩
          rw [← hxy] at hadd
          have hlx' := hlx.symm
          have hA4' := hA4.symm
          have hec : eb.length ≤ ec := hecl
          have HXY := Lib.hid hxy
          have HUB := Lib.hid hub2
          have HFP := Lib.hid hF
          obtain ⟨c4, hc4⟩ : ∃ c4, c4 = ec - F := ⟨_, rfl⟩
          rw [← hc4] at hcv
          have hc4' := hc4.symm
          clear hD6 hct hA4 hub hub2 hubl hlx hlx2 huy hxy hF hc4 c3
          have HCV := Lib.hid hcv
          have HADD := Lib.hid hadd
          have HA4 := Lib.hid hA4'
          have HLX := Lib.hid hlx'
          have HC4x := Lib.hid hc4'
          have HC3 := Lib.hid c3'
          have HFI := Lib.hid hFi
          have HMW := Lib.hid hmw
          have HFL := Lib.hid hFl
          have HEC := Lib.hid hec
          have HEN := Lib.hid heN
          clear hcv hadd hA4' hlx' hc4' c3' hsub e1n hA' hc2' hzl2 ef em2 em es hlf hmo hsm hsh hm0 hm1 hs0 hs1 hi1 hi12 hi2 hFl hecl hecm hec heN hl hp e0 e1 hPl z1 z2 z4
          go_upto_region 21 with (go_at_call 28; go_loud (refine (at_calls w6 _ _ _ _ _ _ HC6.out).mono ?_; rintro e w7 ⟨rfl, rfl⟩))
          have hcv := HCV.out
          have hadd := HADD.out
          have hA4' := HA4.out
          have hlx' := HLX.out
          have hc4' := HC4x.out
          have c3' := HC3.out
          obtain ⟨T, hT⟩ : ∃ T, T = F + MO := ⟨_, rfl⟩
          have hFe : T ≤ ec := by rw [hT]; exact Nat.le_trans HFL.out HEC.out
          have hsubF : T - F = MO := by rw [hT]; exact nb6 F MO
          have hFM : F ≤ T := by rw [hT]; exact Nat.le_add_right _ _
          have hw1 : IntKind.i64.wrap (MO : Int) = (MO : Int) := nbw1 hMb
          have hw2 : IntKind.i64.wrap ((F : Int) + (MO : Int)) = (T : Int) := by rw [hT]; exact nbw hFb hMb
          have HT := Lib.hid hT
          clear hT
          go_quiet (fail)
          go_wp2
          go_ret3
          refine ⟨?_, by refine below_drewN ?_ _; exact B6.out⟩
          rw [HE2.out, HXY.out, HUB.out, HT.out, HFP.out]
          simp only [Int.toNat_natCast]
          congr 3
end Go.Proofs.YtjgcmnppiaikcaaDoor
