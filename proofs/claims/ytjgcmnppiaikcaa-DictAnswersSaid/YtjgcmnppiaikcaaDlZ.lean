/- DlX DlZ, laid as one. -/
import Derived.Test.YtjgcmnppiaikcaaDlF
import Derived.Test.YtjgcmnppiaikcaaDlG
import Derived.Test.YtjgcmnppiaikcaaDlK
import Derived.Test.YtjgcmnppiaikcaaDlW
set_option linter.unusedVariables false
set_option linter.unusedSimpArgs false
/- The document's Find and Range, of texts that rise. -/
namespace Go.Proofs.Ytjgcmnppiaikcaa
open Go.RowKit Go.Tk
theorem com_pre : ∀ (p x : List UInt8), preB p x = decide (comN x p = p.length)
  | [], [] => by simp [preB, comN, Lib.hasPrefix]
  | [], _ :: _ => by simp [preB, comN, Lib.hasPrefix]
  | _ :: _, [] => by simp [preB, comN, Lib.hasPrefix]
  | a :: p, b :: x => by
    have ih := com_pre p x
    unfold preB Lib.hasPrefix at ih ⊢
    by_cases h : a = b
    · subst h
      have e : comN (a :: x) (a :: p) = comN x p + 1 := by simp [comN]
      rw [e]
      simp [List.isPrefixOf, ih]
    · have e : comN (b :: x) (a :: p) = 0 := by simp only [comN]; rw [if_neg (fun e => h e.symm)]
      rw [e]
      simp [List.isPrefixOf, h]
theorem fnd_is {L : List (List UInt8)} {s : List UInt8} {i : Nat} (hi : i ≤ L.length) (h1 : ∀ j, j < i → ltB (L.getD j []) s = true) (h2 : i < L.length → ltB (L.getD i []) s = false) : fnd L s = i := by
  refine tw_len _ L i hi (fun j hj hji => ?_) (fun hj => ?_)
  · have := h1 j hji; simpa [hj] using this
  · have := h2 hj; simpa [hj] using this
theorem fnd2_is {L : List (List UInt8)} {s : List UInt8} {i : Nat} (hi : i ≤ L.length) (hf : fnd L s ≤ i) (hG : Good L) (h1 : ∀ j, fnd L s ≤ j → j < i → comN (L.getD j []) s = s.length) (h2 : i < L.length → comN (L.getD i []) s ≠ s.length) : fnd2 L s = i := by
  have hc := (fnd_cut hG s).2
  refine tw_len _ L i hi (fun j hj hji => ?_) (fun hj => ?_)
  · have e := hc j hj
    have e2 : L.getD j [] = L[j] := by simp [hj]
    rw [e2] at e
    show (ltB L[j] s || preB s L[j]) = true
    by_cases hjf : j < fnd L s
    · rw [e, decide_eq_true hjf]; rfl
    · have := h1 j (by omega) hji
      rw [e2] at this
      rw [com_pre, decide_eq_true this]; simp
  · have e := hc i hj
    have e2 : L.getD i [] = L[i] := by simp [hj]
    rw [e2] at e
    show (ltB L[i] s || preB s L[i]) = false
    have := h2 hj
    rw [e2] at this
    rw [e, com_pre, decide_eq_false this, decide_eq_false (by omega)]; rfl
set_option maxRecDepth 100000 in
theorem common2_calls (w : World) (x y : List UInt8) (hx : x.length ≤ 1000000000000000) (hy : y.length ≤ 9223372036854775807) :
    Calls Try.prog 39 #[.string ⟨x.toArray⟩, .string ⟨y.toArray⟩] w fun e w' => e = .returned (.int .i64 (comN x y : Nat)) ∧ ∃ m, w' = w.drewN m := by
  obtain ⟨s, hs⟩ : ∃ s : ByteArray, s = ⟨x.toArray⟩ := ⟨_, rfl⟩
  obtain ⟨t, ht⟩ : ∃ t : ByteArray, t = ⟨y.toArray⟩ := ⟨_, rfl⟩
  have hsl : s.size = x.length := by rw [hs]; simp [ByteArray.size]
  have htl : t.size = y.length := by rw [ht]; simp [ByteArray.size]
  have hsg : ∀ i (h : i < s.size) (h' : i < x.length), s[i] = x[i] := fun i h h' => by subst hs; simp [ByteArray.getElem_eq_getElem_data]
  have htg : ∀ i (h : i < t.size) (h' : i < y.length), t[i] = y[i] := fun i h h' => by subst ht; simp [ByteArray.getElem_eq_getElem_data]
  rw [← hs, ← ht]
  rw [← hsl] at hx
  rw [← htl] at hy
  have HSL := Lib.hid hsl
  have HTL := Lib.hid htl
  have HSG := Lib.hid hsg
  have HTG := Lib.hid htg
  clear hs ht hsl htl hsg htg
  go_enter Try.func39, Try.ntmps39
  go_wp2
  go_loopw [5] (fun iv wr => ∃ (i m : Nat), iv = .int .i64 (i : Nat) ∧ i ≤ s.size ∧ i ≤ t.size ∧ x.take i = y.take i ∧ wr = w.drewN m) (fun iv _ => s.size - (intOf iv).toNat)
  case atStart => exact ⟨0, 0, rfl, Nat.zero_le _, Nat.zero_le _, by simp, rfl⟩
  case round =>
    obtain ⟨i, m, rfl, h1, h2, he, rfl⟩ := hrel
    have HE := Lib.hid he
    clear he
    have hdone : (i = x.length ∨ i = y.length ∨ x[i]? ≠ y[i]?) → comN x y = i := fun h => comN_stop x y i HE.out (by have := HSL.out; omega) (by have := HTL.out; omega) h
    have HDN := Lib.hid hdone
    clear hdone
    by_cases hs1 : i < s.size
    · by_cases ht1 : i < t.size
      · have hxi : i < x.length := by have := HSL.out; omega
        have hyi : i < y.length := by have := HTL.out; omega
        have hsi := HSG.out i hs1 hxi
        have hti := HTG.out i ht1 hyi
        obtain ⟨p, hp⟩ : ∃ p, p = x[i] := ⟨_, rfl⟩
        obtain ⟨q, hq⟩ : ∃ q, q = y[i] := ⟨_, rfl⟩
        have hpq : (p.toNat : Int) = (q.toNat : Int) ↔ p = q := ⟨fun h => UInt8.toNat.inj (by omega), fun h => by rw [h]⟩
        have hns : s[i].toNat = p.toNat := by rw [hsi, hp]
        have hnt : t[i].toNat = q.toNat := by rw [hti, hq]
        have HP := Lib.hid hp
        have HQ := Lib.hid hq
        have HPQ := Lib.hid hpq
        have HXI := Lib.hid hxi
        have HYI := Lib.hid hyi
        clear hsi hti hp hq hpq
        by_cases hb : (p.toNat : Int) = (q.toNat : Int)
        · have eb : ((p.toNat : Int) == (q.toNat : Int)) = true := by simp [hb]
          have HB := Lib.hid hb
          clear hb
          go_wp2_with fail
          go_quiet (fail)
          go_wp2
          refine ⟨⟨i + 1, _, by go_num, by omega, by omega, ?_, rfl⟩, by simp [intOf]; omega⟩
          rw [List.take_succ_eq_append_getElem HXI.out, List.take_succ_eq_append_getElem HYI.out, HE.out, ← HP.out, ← HQ.out, HPQ.out.1 HB.out]
        · have eb : ((p.toNat : Int) == (q.toNat : Int)) = false := by simp [hb]
          have hc := HDN.out (.inr (.inr (by rw [List.getElem?_eq_getElem HXI.out, List.getElem?_eq_getElem HYI.out, ← HP.out, ← HQ.out]; intro h; exact hb (HPQ.out.2 (Option.some.inj h)))))
          have HC := Lib.hid hc
          clear hb hc
          go_wp2_with fail
          go_quiet (fail)
          go_wp2
          go_ret
          exact ⟨by rw [HC.out]; rfl, _, drewN2 w m nq⟩
      · have hc := HDN.out (.inr (.inl (by have := HTL.out; omega)))
        have HC := Lib.hid hc
        clear hc
        go_wp2_with fail
        go_quiet (fail)
        go_wp2
        go_ret
        exact ⟨by rw [HC.out]; rfl, _, drewN2 w m nq⟩
    · have hc := HDN.out (.inl (by have := HSL.out; omega))
      have HC := Lib.hid hc
      clear hc
      go_wp2_with fail
      go_quiet (fail)
      go_wp2
      go_ret
      exact ⟨by rw [HC.out]; rfl, _, drewN2 w m nq⟩
set_option maxRecDepth 100000 in
set_option maxHeartbeats 2000000 in
theorem rfind_calls (w : World) (a : Option Addr) (n c : Nat) (L : List (List UInt8)) (h : SlS w a n c L) (hn : n ≤ 4194304) (s : ByteArray) :
    Calls Try.prog 50 #[.slice a n c, .string s] w fun e w' => e = .returned (.tuple #[.int .i64 (fnd L s.data.toList : Nat), .bool (decide (fnd L s.data.toList < L.length ∧ L.getD (fnd L s.data.toList) [] = s.data.toList))]) ∧ ∃ m, w' = w.drewN m := by
  have hle := h.le
  have hmx := h.max
  have HS := Lib.hid h
  have HL := Lib.hid h.len
  clear h
  go_enter Try.func50, Try.ntmps50
  go_wp2
  go_loopw [6] (fun iv wr => ∃ (i : Nat), iv = .int .i64 (i : Nat) ∧ i ≤ n ∧ (∀ j, j < i → ltB (L.getD j []) s.data.toList = true) ∧ wr = w) (fun iv _ => n - (intOf iv).toNat)
  case atStart => exact ⟨0, rfl, Nat.zero_le _, fun j hj => by omega, rfl⟩
  case round =>
    obtain ⟨i, rfl, hi, hall, rfl⟩ := hrel
    have HALL := Lib.hid hall
    clear hall
    by_cases hlt : i < n
    · obtain ⟨b, o, rfl, hc⟩ := HS.out.cell i hlt
      obtain ⟨t, ht⟩ : ∃ t : ByteArray, t = ⟨(L.getD i []).toArray⟩ := ⟨_, rfl⟩
      rw [← ht] at hc
      have htd : t.data.toList = L.getD i [] := by rw [ht]
      obtain ⟨lt, hlt9⟩ : ∃ lt, lt = ltB (L.getD i []) s.data.toList := ⟨_, rfl⟩
      have hlb : Op.bytesLess t.toList s.toList = lt := by
        rw [hlt9, ← htd, Lib.toList_data, Lib.toList_data]; rfl
      have HLT := Lib.hid hlt9
      have HTD := Lib.hid htd
      clear hlt9 ht htd
      cases lt with
      | true =>
        go_wp2
        refine ⟨⟨i + 1, by go_num, by omega, fun j hj => ?_, by first | rfl | trivial⟩, by simp [intOf]; omega⟩
        by_cases e : j = i
        · rw [e]; exact HLT.out.symm
        · exact HALL.out j (by omega)
      | false =>
        have hf : fnd L s.data.toList = i := fnd_is (by rw [HL.out]; omega) HALL.out (fun _ => HLT.out.symm)
        have HF := Lib.hid hf
        clear hf
        go_wp2
        go_quiet (fail)
        go_wp2
        go_ret2
        refine ⟨?_, _, rfl⟩
        rw [HF.out, HL.out]
        have hv : (t.toList == s.toList) = decide (i < n ∧ L.getD i [] = s.data.toList) := by
          rw [Lib.toList_data, Lib.toList_data, HTD.out, Bool.eq_iff_iff]
          simp [hlt]
        rw [← hv]
        rfl
    · obtain rfl : i = n := by omega
      have hf : fnd L s.data.toList = i := fnd_is (by rw [HL.out]; omega) HALL.out (fun h => by rw [HL.out] at h; omega)
      have HF := Lib.hid hf
      clear hf
      go_wp2
      go_quiet (fail)
      go_wp2
      go_ret2
      refine ⟨?_, _, rfl⟩
      rw [HF.out, HL.out, decide_eq_false (fun h => Nat.lt_irrefl _ h.1)]
      rfl
theorem common2B_calls (w : World) (s t : ByteArray) (hs : s.size ≤ 1000000000000000) (ht : t.size ≤ 9223372036854775807) :
    Calls Try.prog 39 #[.string s, .string t] w fun e w' => e = .returned (.int .i64 (comN s.data.toList t.data.toList : Nat)) ∧ ∃ m, w' = w.drewN m :=
  common2_calls w s.data.toList t.data.toList (by rw [← Lib.size_eq]; exact hs) (by rw [← Lib.size_eq]; exact ht)
set_option maxRecDepth 100000 in
set_option maxHeartbeats 2000000 in
theorem rrange_calls (w : World) (a : Option Addr) (n c : Nat) (L : List (List UInt8)) (h : SlS w a n c L) (hn : n ≤ 4194304) (hG : Good L) (s : ByteArray) (hss : s.size ≤ 9223372036854775807) :
    Calls Try.prog 51 #[.slice a n c, .string s] w fun e w' => e = .returned (.tuple #[.int .i64 (fnd L s.data.toList : Nat), .int .i64 (fnd2 L s.data.toList : Nat)]) ∧ ∃ m, w' = w.drewN m := by
  have hle := h.le
  have hmx := h.max
  have hfl := (fnd_cut hG s.data.toList).1
  rw [h.len] at hfl
  have HFI := Lib.hid (rfind_calls w a n c L h hn s)
  obtain ⟨F, hF⟩ : ∃ F, F = fnd L s.data.toList := ⟨_, rfl⟩
  rw [← hF] at HFI hfl
  obtain ⟨bo, hbo⟩ : ∃ bo, bo = decide (F < L.length ∧ L.getD F [] = s.data.toList) := ⟨_, rfl⟩
  rw [← hbo] at HFI
  have HS := Lib.hid h
  have HL := Lib.hid h.len
  have HG := Lib.hid hG
  have HF := Lib.hid hF
  clear h hG hF hbo
  go_enter Try.func51, Try.ntmps51
  go_wp2_with (go_at_call 50; (with_reducible refine HFI.out.mono ?_); rintro e w1 ⟨rfl, m1, hm1⟩)
  go_loopw [8] (fun iv wr => ∃ (i m : Nat), iv = .int .i64 (i : Nat) ∧ F ≤ i ∧ i ≤ n ∧ (∀ j, F ≤ j → j < i → comN (L.getD j []) s.data.toList = s.data.toList.length) ∧ wr = w.drewN m) (fun iv _ => n - (intOf iv).toNat)
  case atStart => exact ⟨F, m1, rfl, Nat.le_refl _, hfl, fun j h1 h2 => by omega, rfl⟩
  case round =>
    obtain ⟨i, m, rfl, hFi, hi, hall, hwr⟩ := hrel
    have HALL := Lib.hid hall
    have HWR := Lib.hid hwr
    clear hall hwr hm1
    by_cases hlt : i < n
    · have hcl : ∃ b o, a = some ⟨b, o, none⟩ ∧ wr.cell? ⟨b, o + i, none⟩ = some (.string ⟨(L.getD i []).toArray⟩) := by rw [HWR.out]; exact HS.out.cell i hlt
      obtain ⟨b, o, rfl, hc⟩ := hcl
      obtain ⟨t, ht⟩ : ∃ t : ByteArray, t = ⟨(L.getD i []).toArray⟩ := ⟨_, rfl⟩
      rw [← ht] at hc
      have htd : t.data.toList = L.getD i [] := by rw [ht]
      have hts : t.size ≤ 1000000000000000 := by rw [Lib.size_eq, htd]; have := HG.out.sz i (by rw [HL.out]; exact hlt); omega
      have hcm := common2B_calls wr t s hts hss
      obtain ⟨C, hC⟩ : ∃ C, C = comN t.data.toList s.data.toList := ⟨_, rfl⟩
      rw [← hC] at hcm
      have HCM := Lib.hid hcm
      have HC := Lib.hid (show C = comN (L.getD i []) s.data.toList by rw [hC, htd])
      clear hcm hC ht htd
      by_cases hCs : (C : Int) = (s.size : Nat)
      · have e1 : ((C : Int) == (s.size : Nat)) = true := by simp [hCs]
        have HCS := Lib.hid hCs
        clear hCs
        go_wp2_with (go_at_call 39; (with_reducible refine HCM.out.mono ?_); rintro e w3 ⟨rfl, m3, hm3⟩)
        refine ⟨⟨i + 1, m + m3, by go_num, by omega, by omega, fun j h1 h2 => ?_, ?_⟩, by simp [intOf]; omega⟩
        · by_cases e : j = i
          · rw [e, ← HC.out, ← Lib.size_eq]; have := HCS.out; omega
          · exact HALL.out j h1 (by omega)
        · rw [HWR.out]; exact drewN2 w m m3
      · have e1 : ((C : Int) == (s.size : Nat)) = false := by simp [hCs]
        have hf : fnd2 L s.data.toList = i := fnd2_is (by rw [HL.out]; omega) (by rw [← HF.out]; exact hFi) HG.out (by rw [← HF.out]; exact HALL.out) (fun _ => by rw [← HC.out, ← Lib.size_eq]; omega)
        have HF2 := Lib.hid hf
        clear hf hCs
        go_wp2_with (go_at_call 39; (with_reducible refine HCM.out.mono ?_); rintro e w3 ⟨rfl, m3, hm3⟩)
        go_ret2
        refine ⟨?_, m + m3, by rw [HWR.out]; exact drewN2 w m m3⟩
        rw [HF2.out, ← HF.out]
        rfl
    · obtain rfl : i = n := by omega
      have hf : fnd2 L s.data.toList = i := fnd2_is (by rw [HL.out]; omega) (by rw [← HF.out]; exact hFi) HG.out (by rw [← HF.out]; exact HALL.out) (fun h => by rw [HL.out] at h; omega)
      have HF2 := Lib.hid hf
      clear hf
      go_wp2
      go_ret2
      refine ⟨?_, m, HWR.out⟩
      rw [HF2.out, ← HF.out]
      rfl
end Go.Proofs.Ytjgcmnppiaikcaa
/- asked: is the answer the document's? -/
namespace Go.Proofs.Ytjgcmnppiaikcaa
open Go.RowKit Go.Tk
theorem take_rngA : ∀ (n s m : Nat), (List.range' s n).take m = List.range' s (min m n)
  | 0, s, m => by simp
  | n + 1, s, 0 => by simp
  | n + 1, s, m + 1 => by rw [List.range'_succ, List.take_succ_cons, take_rngA n (s + 1) m, show min (m + 1) (n + 1) = min m n + 1 by omega, List.range'_succ]
theorem rng_snoc (L : List (List UInt8)) (f k : Nat) : (List.range' f (k + 1)).map (entL L) = (List.range' f k).map (entL L) ++ [(f + k, L.getD (f + k) [])] := by
  rw [List.range'_concat, List.map_append]
  simp [entL]
theorem ownsRow_keep {e size : Nat} {base B n : Nat} {xs : List Value} {w w' : World} {v : Value} (h : w.ownsRow base e size v n xs) (hb : Below B w w') (hB : w.heap.size ≤ B) : w'.ownsRow base e size v n xs := by
  have hlt := World.ownsRow.lt h
  refine ⟨h.1, ?_⟩
  rcases h.2 with hn | ⟨g, cap, cur, rfl, hbg, hgg, rest⟩
  · exact .inl hn
  · exact .inr ⟨g, cap, cur, rfl, hbg, (hb.block g (by have := (hlt g rfl).2; omega)).trans hgg, rest⟩
/-- append(want, Seen{..}). -/
theorem wpList_saw {w : World} {ops : Array Oper} {rest : List Oper} {o : Oper} {a : Act} {Q : Exit → Act → World → Prop} (hgd : o.guard = none) (s x : Operand)
    (ho : o.op = .call { callee := .builtin .append, args := #[s, x], argTypes := #[64, 64] })
    (base : Nat) (v : Value) (l : List (Nat × List UInt8)) (hs : a.eval s = v) (hown : w.ownsRow base 68 2 v l.length (sawCs l)) (b : Nat) (n : Int) (tb : ByteArray) (op : Nat × List UInt8) (hx : a.eval x = .slice (some ⟨b, 0, none⟩) 1 1) (hb : w.heap[b]? = some (.cells #[.int .i64 n, .string tb] 68 (0, 0)))
    (hn : n = (op.1 : Nat)) (htb : tb = ⟨op.2.toArray⟩)
    (hl : l.length ≤ 4194304) (hbase : base ≤ w.heap.size)
    (h : ∀ v' w', w'.ownsRow base 68 2 v' (l ++ [op]).length (sawCs (l ++ [op])) → w.grownBy w' v.ownBlock → wpList Try.prog ops Q rest (a.put o.dst v') w') : wpList Try.prog ops Q (o :: rest) a w := by
  obtain ⟨i, hi, hz0, hz1, hz2⟩ := info_parts Try.infoSaw
  subst hn htb
  refine wpList_app (w := w) hgd s x 64 ho base 68 i _ 2 24 Try.underlying64 hi hz0 hz1 hz2 rfl (by decide) v l.length (sawCs l) hs hown ⟨b, 0, none⟩ 1 1 (sawC op) hx rfl ?_ ?_ (by unfold maxLen; omega) (by omega) hbase (fun v' w' h1 h2 h3 => h v' w' ?_ h2)
  · intro j u hu
    rw [Addr.add_lit, Nat.zero_add, cell_of_row w b j _ _ _ hb]
    match j, hu with
    | 0, hu => exact hu
    | 1, hu => exact hu
    | j + 2, hu => simp [sawC] at hu
  · intro u hu
    simp only [sawC, List.mem_cons, List.not_mem_nil, or_false] at hu
    rcases hu with rfl | rfl <;> rfl
  · rw [List.length_append, sawCs_snoc]
    exact h1
set_option maxRecDepth 100000 in
set_option maxHeartbeats 8000000 in
theorem asked16_calls (w : World) (gd : Nat) (pa : Option Addr) (pc : Nat) (ea : Option Addr) (ec : Nat) (eb : List UInt8) (L : List (List UInt8)) (hG : Good L) (he : nums eb = areaN L L.length) (hD : DictM w gd L.length (widthD L).toNat pa pc (packD L) ea ec (nums eb))
    (al : Option Addr) (cl : Nat) (hs : SlS w al L.length cl L) (kd q : Int) (sb : ByteArray) (most : Int) (hq : -9223372036854775808 ≤ q ∧ q ≤ 9223372036854775807) (hm : -9223372036854775808 ≤ most ∧ most ≤ 9223372036854775807) (hsb : sb.size ≤ 9223372036854775807) :
    Calls Try.prog 20 #[.pointer (some ⟨gd, 0, none⟩), .slice al L.length cl, .agg #[.int .i64 kd, .int .i64 q, .string sb, .int .i64 most]] w fun e w' => e = .returned (.bool true) ∧ Below w.heap.size w w' := by
  have hLn : L.length ≤ 2000000 := Nat.le_trans (tot_len L) hG.tt
  have hcl := hs.le
  have hcm := hs.max
  have hrow : (w.alloc (.cells #[.int .i64 kd, .int .i64 q, .string sb, .int .i64 most] 48)).heap[w.heap.size]? = some (.cells #[.int .i64 kd, .int .i64 q, .string sb, .int .i64 most] 48 (0, 0)) := heap_alloc_new w _
  have hb0 : Below w.heap.size w (w.alloc (.cells #[.int .i64 kd, .int .i64 q, .string sb, .int .i64 most] 48)) := (Below.refl _ _).alloc (Nat.le_refl _) _
  have HD := Lib.hid (hD.keep hb0)
  have HS := Lib.hid (hs.keep hb0)
  have HB := Lib.hid hb0
  have HROW := Lib.hid hrow
  have HG := Lib.hid hG
  have HE := Lib.hid he
  clear hD hs hb0 hrow hG he
  go_enter Try.func20, Try.ntmps20
  go_upto_region 2 with fail
  have hrow := HROW.out
  generalize hw1 : w.alloc (.cells #[.int .i64 kd, .int .i64 q, .string sb, .int .i64 most] 48) = w1 at hrow HD HS HB ⊢
  clear hw1 HROW
  generalize hgk : w.heap.size = gk at hrow ⊢
  have HGK := Lib.hid hgk
  clear hgk
  have hgl := lt_of_block hrow
  have k1 : w1.cell? ⟨gk, 1, none⟩ = some (.int .i64 q) := cell_of_row w1 gk 1 _ _ _ hrow
  have k2 : w1.cell? ⟨gk, 2, none⟩ = some (.string sb) := cell_of_row w1 gk 2 _ _ _ hrow
  have k3 : w1.cell? ⟨gk, 3, none⟩ = some (.int .i64 most) := cell_of_row w1 gk 3 _ _ _ hrow
  have HROW := Lib.hid hrow
  clear hrow
  by_cases k0 : kd = 0
  · subst k0
    have HLN := Lib.hid (dlen_calls w1 gd _ _ _ _ _ _ _ _ HD.out)
    clear k1 k2 k3
    go_wp2_with (go_at_call 24; refine HLN.out.mono ?_; rintro e wz ⟨rfl, rfl⟩)
    go_ret
    exact ⟨by simp, HB.out⟩
  have z0 : (kd == 0) = false := by simp [k0]
  by_cases k1' : kd = 1
  · subst k1'
    have hg := get_calls w1 gd _ _ _ _ _ _ _ _ HD.out q hq
    rw [get_built HG.out HE.out] at hg
    by_cases hin : 0 ≤ q ∧ q < L.length
    · rw [if_pos hin] at hg
      obtain ⟨i, rfl⟩ : ∃ i : Nat, q = i := ⟨q.toNat, by omega⟩
      have hi : i < L.length := by omega
      obtain ⟨t, ht⟩ : ∃ t : ByteArray, t = ⟨(L.getD i []).toArray⟩ := ⟨_, rfl⟩
      obtain ⟨b, o, rfl, hc⟩ := HS.out.cell i hi
      rw [Int.toNat_natCast] at hg
      rw [← ht] at hg hc
      have HGE := Lib.hid hg
      clear hg ht hin k2 k3
      go_upto_region 6 with (go_at_call 25; (with_reducible refine HGE.out.mono ?_); rintro e w2 ⟨rfl, hb2⟩; (have HB2 := Lib.hid hb2); clear hb2)
      have j1 : w2.cell? ⟨gk, 1, none⟩ = some (.int .i64 (i : Nat)) := (HB2.out.cell (p := ⟨gk, 1, none⟩) hgl).trans k1
      have jc : w2.cell? ⟨b, o + i, none⟩ = some (.string t) := (HB2.out.cell (p := ⟨b, o + i, none⟩) (block_lt_of_cell hc)).trans hc
      clear k1 hc
      go_wp2
      go_ret
      exact ⟨by simp, HB.out.trans (HB2.out.mono HB.out.size)⟩
    · rw [if_neg hin] at hg
      have HGE := Lib.hid hg
      clear hg k2 k3
      go_upto_region 6 with (go_at_call 25; (with_reducible refine HGE.out.mono ?_); rintro e w2 ⟨rfl, hb2⟩; (have HB2 := Lib.hid hb2); clear hb2)
      have j1 : w2.cell? ⟨gk, 1, none⟩ = some (.int .i64 q) := (HB2.out.cell (p := ⟨gk, 1, none⟩) hgl).trans k1
      clear k1
      by_cases h0 : q < 0
      · clear hin
        go_wp2
        go_ret
        exact ⟨by simp, HB.out.trans (HB2.out.mono HB.out.size)⟩
      · have h1 : (L.length : Int) ≤ q := by omega
        clear hin
        go_wp2
        go_ret
        exact ⟨by simp, HB.out.trans (HB2.out.mono HB.out.size)⟩
  have z1 : (kd == 1) = false := by simp [k1']
  by_cases k2' : kd = 2
  · subst k2'
    have hf := find_calls w1 gd _ _ _ _ _ _ _ _ HD.out sb
    rw [find_built HG.out HE.out] at hf
    have hr := fun W h => rfind_calls W al L.length cl L h (by omega) sb
    obtain ⟨F, hF⟩ : ∃ F, F = fnd L sb.data.toList := ⟨_, rfl⟩
    rw [← hF] at hf
    simp only [← hF] at hr
    obtain ⟨bo, hbo⟩ : ∃ bo, bo = decide (F < L.length ∧ L.getD F [] = sb.data.toList) := ⟨_, rfl⟩
    rw [← hbo] at hf
    simp only [← hbo] at hr
    have HF := Lib.hid hf
    have HR := Lib.hid hr
    clear hf hr hF hbo k1 k3
    go_upto_region 11 with (go_at_call 26; (with_reducible refine HF.out.mono ?_); rintro e w2 ⟨rfl, hb2⟩; (have HB2 := Lib.hid hb2); clear hb2)
    have j2 : w2.cell? ⟨gk, 2, none⟩ = some (.string sb) := (HB2.out.cell (p := ⟨gk, 2, none⟩) hgl).trans k2
    have HR2 := Lib.hid (HR.out w2 (HS.out.keep HB2.out))
    clear k2
    go_wp2_with (go_at_call 50; (with_reducible refine HR2.out.mono ?_); rintro e w3 ⟨rfl, m3, hm3⟩)
    go_ret
    exact ⟨by simp, below_drewN (HB.out.trans (HB2.out.mono HB.out.size)) m3⟩
  have z2 : (kd == 2) = false := by simp [k2']
  by_cases k3' : kd = 3
  · subst k3'
    have hf := range_calls w1 gd _ _ _ _ _ _ _ _ HD.out sb
    rw [range_built HG.out HE.out] at hf
    have hr := fun W h => rrange_calls W al L.length cl L h (by omega) HG.out sb hsb
    obtain ⟨F, hF⟩ : ∃ F, F = fnd L sb.data.toList := ⟨_, rfl⟩
    obtain ⟨F2, hF2⟩ : ∃ F, F = fnd2 L sb.data.toList := ⟨_, rfl⟩
    rw [← hF, ← hF2] at hf
    simp only [← hF, ← hF2] at hr
    have HF := Lib.hid hf
    have HR := Lib.hid hr
    clear hf hr hF hF2 k1 k3
    go_upto_region 15 with (go_at_call 27; (with_reducible refine HF.out.mono ?_); rintro e w2 ⟨rfl, hb2⟩; (have HB2 := Lib.hid hb2); clear hb2)
    have j2 : w2.cell? ⟨gk, 2, none⟩ = some (.string sb) := (HB2.out.cell (p := ⟨gk, 2, none⟩) hgl).trans k2
    have HR2 := Lib.hid (HR.out w2 (HS.out.keep HB2.out))
    clear k2
    go_wp2_with (go_at_call 51; (with_reducible refine HR2.out.mono ?_); rintro e w3 ⟨rfl, m3, hm3⟩)
    go_ret
    exact ⟨by simp, below_drewN (HB.out.trans (HB2.out.mono HB.out.size)) m3⟩
  have z3 : (kd == 3) = false := by simp [k3']
  by_cases k4' : kd = 4
  rotate_left
  · have z4 : (kd == 4) = false := by simp [k4']
    go_wp2
    go_ret
    exact ⟨rfl, HB.out⟩
  subst k4'
  obtain ⟨M, hM⟩ : ∃ M : Nat, (M : Int) = max 0 most := ⟨(max 0 most).toNat, by omega⟩
  obtain ⟨f, hf⟩ : ∃ f : Nat, f = q.toNat := ⟨_, rfl⟩
  have hff : max (0 : Int) q = (f : Int) := by omega
  have hMb : M ≤ 9223372036854775807 := by omega
  have hfb : f ≤ 9223372036854775807 := by omega
  obtain ⟨C, hC⟩ : ∃ C, C = min M (L.length - f) := ⟨_, rfl⟩
  have hLt : (eachF (packD L) (widthD L).toNat eb L.length q).take M = (List.range' f C).map (entL L) := by
    rw [each_built HG.out HE.out, ← List.map_take, ← hf, hC, take_rngA]
  have hwk := walked_calls w1 gd L.length _ pa pc _ ea ec eb HD.out q hq M hMb _ rfl
  rw [hLt] at hwk
  have hWl : ((List.range' f C).map (entL L)).length = C := by simp
  have HWL := Lib.hid hWl
  have HM := Lib.hid hM
  have HFF := Lib.hid hff
  have HWK := Lib.hid hwk
  have HC := Lib.hid hC
  clear hM hff hf hC hLt hwk k2 hWl
  go_upto_region 19 with fail
  rw [← HM.out]
  go_upto_region 21 with (go_at_call 28; (with_reducible refine HWK.out.mono ?_); rintro e w2 ⟨v, rfl, hrw, hb2⟩; (have HRW := Lib.hid hrw); (have HB2 := Lib.hid hb2); clear hrw hb2)
  have j1 : w2.cell? ⟨gk, 1, none⟩ = some (.int .i64 q) := (HB2.out.cell (p := ⟨gk, 1, none⟩) hgl).trans k1
  have HS2 := Lib.hid (HS.out.keep HB2.out)
  have HBW := Lib.hid (HB.out.trans (HB2.out.mono HB.out.size))
  clear k1 k3 HS HB HWK
  go_upto_region 22 with fail
  rw [HFF.out]
  clear j1
  have hz2 := HBW.out.size
  go_loopw [20, 21] (fun wv iv wr => ∃ (k m : Nat), iv = .int .i64 ((f + k : Nat) : Int) ∧ k ≤ C ∧ wr.ownsRow w2.heap.size 68 2 wv ((List.range' f k).map (entL L)).length (sawCs ((List.range' f k).map (entL L))) ∧ Below w2.heap.size w2 wr) (fun _ iv _ => f + C - (intOf iv).toNat)
  case atStart => exact ⟨0, 0, rfl, Nat.zero_le _, by simpa [sawCs] using World.ownsRow_nil _ _ _ _, Below.refl _ _⟩
  case round =>
    obtain ⟨k, _, rfl, hk, how, hb⟩ := hrel
    obtain ⟨wa, wcap, rfl⟩ := ownsRow_slice how
    have hkl : ((List.range' f k).map (entL L)).length = k := by simp
    obtain ⟨A, hA⟩ : ∃ A, A = (List.range' f k).map (entL L) := ⟨_, rfl⟩
    have hsn := rng_snoc L f k
    rw [← hA] at how hkl hsn
    rw [← hA]
    have HOW := Lib.hid how
    have HBR := Lib.hid hb
    have HKL := Lib.hid hkl
    have HSN := Lib.hid hsn
    have HA := Lib.hid hA
    clear how hb hkl hsn hA
    by_cases hlt : k < C
    · have hfk : f + k < L.length := by have := HC.out; omega
      have hkM : A.length < M := by have := HC.out; have := HKL.out; omega
      have hk2 : k ≤ 2000000 := by omega
      obtain ⟨b, o, rfl, hc⟩ := (HS2.out.keep HBR.out).cell (f + k) hfk
      obtain ⟨t, ht⟩ : ∃ t : ByteArray, t = ⟨(L.getD (f + k) []).toArray⟩ := ⟨_, rfl⟩
      rw [← ht] at hc
      obtain ⟨x, hx⟩ : ∃ x, x = f + k := ⟨_, rfl⟩
      rw [← hx] at hc hfk
      have hx2 : ((f + k : Nat) : Int) = (x : Int) := by rw [hx]
      simp only [hx2]
      have HX := Lib.hid hx
      have HTT := Lib.hid ht
      clear hx hx2 ht
      go_wp2_with (at_builtin; go_loud (refine wpList_saw rfl (.tmp 142) (.tmp 149) rfl w2.heap.size _ A rfl (World.ownsRow.alloc HOW.out _) wr.heap.size _ t (x, L.getD x []) rfl (heap_alloc_new _ _) rfl (by rw [HTT.out, HX.out]) (by rw [HKL.out]; omega) (by have := HBR.out.size; simp; omega) ?_; intro v' w3 hown' hgrow; (have HW := Lib.hid hown'); (have HG2 := Lib.hid hgrow); clear hown' hgrow))
      go_roundw
      case rel =>
        refine ⟨k + 1, 0, by rw [HX.out]; go_num, by omega, ?_, ?_⟩
        · have := HW.out
          rw [HX.out, ← HSN.out] at this
          exact this
        · exact (HBR.out.alloc HBR.out.size _).grown HG2.out (by have := HBR.out.size; simp; omega) (fun j e => (World.ownsRow.lt HOW.out j e).1)
      case measure => have hx := HX.out; simp [intOf]; omega
    · obtain rfl : k = C := by omega
      clear hlt hk
      have hrw := HRW.out
      rw [← HA.out] at hrw
      have HR2 := Lib.hid (ownsRow_keep hrw HBR.out (Nat.le_refl _))
      have HSM := Lib.hid (sameSaw_calls wr _ _ _ _ A (by rw [HKL.out]; have := HC.out; omega) HR2.out HOW.out)
      have HBZ := Lib.hid (HBW.out.trans (HBR.out.mono HBW.out.size))
      clear hrw
      by_cases hfl : f + k < L.length
      · have hkM : ¬ A.length < M := by have := HC.out; have := HKL.out; omega
        have hfl2 : ((f : Int) + (k : Int)) < (L.length : Int) := by omega
        go_wp2_with (go_at_call 52; (with_reducible refine HSM.out.mono ?_); rintro e w5 ⟨rfl, m5, hm5⟩)
        go_ret
        exact ⟨rfl, below_drewN HBZ.out m5⟩
      · go_wp2_with (go_at_call 52; (with_reducible refine HSM.out.mono ?_); rintro e w5 ⟨rfl, m5, hm5⟩)
        go_ret
        exact ⟨rfl, below_drewN HBZ.out m5⟩
end Go.Proofs.Ytjgcmnppiaikcaa
