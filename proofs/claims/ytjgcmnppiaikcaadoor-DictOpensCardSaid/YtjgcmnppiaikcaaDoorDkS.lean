/- Slices of texts that came in; how many bytes they have; what two texts have in common; whether they rise. -/
import Derived.Test.YtjgcmnppiaikcaaDoorOpen
import Derived.Test.YtjgcmnppiaikcaaDoorReg
import Derived.Test.YtjgcmnppiaikcaaDoorTypes
import Derived.Test.YtjgcmnppiaikcaaDoorBytes
import Derived.SliceStrings
import Derived.BigQuiet
import Derived.Deep.QuietTactic
set_option linter.unusedVariables false
set_option linter.unusedSimpArgs false
namespace Go.Tk
open Go Go.RowKit Go.ChangeShapes Go.WideShapes Go.ChangeAt
/-- A slice of texts: so many, at so many places. -/
structure SlS (w : World) (a : Option Addr) (n c : Nat) (L : List (List UInt8)) : Prop where
  len : L.length = n
  le : n ≤ c
  max : c ≤ 9223372036854775807
  cell : ∀ i, i < n → ∃ b o, a = some ⟨b, o, none⟩ ∧ w.cell? ⟨b, o + i, none⟩ = some (.string ⟨(L.getD i []).toArray⟩)
theorem SlS.keep {w w' : World} {a : Option Addr} {n c : Nat} {L : List (List UInt8)} (h : SlS w a n c L) (hb : Below w.heap.size w w') : SlS w' a n c L :=
  ⟨h.len, h.le, h.max, fun i hi => by
    obtain ⟨b, o, e, hc⟩ := h.cell i hi
    exact ⟨b, o, e, (hb.cell (p := ⟨b, o + i, none⟩) (block_lt_of_cell hc)).trans hc⟩⟩
theorem SlS.front {w : World} {a : Option Addr} {n c : Nat} {L : List (List UInt8)} (h : SlS w a n c L) (m : Nat) (hm : m ≤ n) : SlS w a m c (L.take m) :=
  ⟨by rw [List.length_take, h.len]; omega, by have := h.le; omega, h.max, fun i hi => by
    obtain ⟨b, o, e, hc⟩ := h.cell i (by omega)
    refine ⟨b, o, e, ?_⟩
    rw [hc]
    have : (L.take m).getD i [] = L.getD i [] := by simp [List.getD_eq_getElem?_getD, List.getElem?_take, hi]
    rw [this]⟩
/-- The texts that an argument holds. -/
def TxtOk (L : List (List UInt8)) : Prop := ∀ s ∈ L, s.length ≤ 9223372036854775807
theorem open_strs {H : Type} {enc : TypeId × Value → H} {P : Program} {W : World} {t e : TypeId} {a : Option Addr} {len cap : Nat} {d : DataW H} {p : List MemPlace}
    (hu : P.underlying t = some (.slice e)) (hk : P.underlying e = some .string) (hc : P.cellsOf e = 1) (hby : P.bytesOf e = 16)
    (h : DataW.Trod enc P W 0 (fun _ => true) true t (.slice a len cap) d p)
    (hs : ∀ el sp, d = .slice el sp → (el.length + sp.length) * P.bytesOf e ≤ reachBytes) :
    ∃ L, SlS W a len cap L ∧ (a = none → cap = 0) ∧ TxtOk L ∧ cap ≤ 8796093022208 := by
  obtain ⟨fuel, hf⟩ := h
  rcases open_strings hu hk hc hf with ⟨hcs, _⟩ | ⟨x, l, c, ss, hcs, _, hl, hm, hz, hx, hcell, hsz⟩
  · simp [Value.cells] at hcs
    obtain ⟨rfl, rfl, rfl⟩ := hcs
    exact ⟨[], ⟨rfl, Nat.le_refl _, by omega, fun i hi => by omega⟩, fun _ => rfl, (fun s hs => by cases hs), by omega⟩
  · simp [Value.cells] at hcs
    obtain ⟨rfl, rfl, rfl⟩ := hcs
    simp only [if_true] at hz
    have hx1 : d = .slice (strs (ss.take len)) (strs (ss.drop len)) := by simp only [Prod.mk.injEq] at hx; exact hx.1
    have hb := hs _ _ hx1
    rw [hby] at hb
    simp only [strs, List.length_map, List.length_take, List.length_drop, reachBytes] at hb
    have hcap : cap ≤ 8796093022208 := by omega
    refine ⟨(ss.take len).map (·.data.toList), ⟨by simp; omega, hl, by omega, fun i hi => ?_⟩, (fun e => by cases e), fun s hs => ?_, hcap⟩
    · have hcl := hcell i (by omega)
      obtain ⟨xb, xo, xs⟩ := x
      have hsp : xs = none := by
        have := World.cell?_spot (hcell 0 (by omega))
        simpa [Addr.add] using this
      subst hsp
      refine ⟨xb, xo, rfl, ?_⟩
      rw [Addr.add_lit] at hcl
      rw [hcl]
      have : ((ss.take len).map (·.data.toList)).getD i [] = (ss.getD i ByteArray.empty).data.toList := by
        have h1 : i < ss.length := by omega
        simp [List.getD_eq_getElem?_getD, List.getElem?_take, hi, h1]
      rw [this]
    · obtain ⟨y, hy, rfl⟩ := List.mem_map.1 hs
      have := hsz y (List.mem_of_mem_take hy)
      rw [← Lib.size_eq]
      simpa [maxLen] using this
/-- How many texts and bytes there are in all. -/
def tot (L : List (List UInt8)) : Nat := (L.map fun s => s.length + 1).sum
theorem tot_snoc (L : List (List UInt8)) (s : List UInt8) : tot (L ++ [s]) = tot L + (s.length + 1) := by simp [tot]
theorem tot_take {L : List (List UInt8)} {i : Nat} (h : i < L.length) : tot (L.take (i + 1)) = tot (L.take i) + ((L.getD i []).length + 1) := by
  rw [List.take_succ_eq_append_getElem h, tot_snoc]
  simp [h]
theorem tot_mono (L : List (List UInt8)) (i : Nat) : tot (L.take i) ≤ tot L := by
  unfold tot
  rw [List.map_take]
  generalize L.map (fun s => s.length + 1) = l
  have := List.sum_append (l₁ := l.take i) (l₂ := l.drop i)
  rw [List.take_append_drop] at this
  omega
def fewB (L : List (List UInt8)) : Bool := decide (tot L ≤ 2000000)
/-- With how many bytes both begin. -/
def comN : List UInt8 → List UInt8 → Nat
  | a :: x, b :: y => if a = b then comN x y + 1 else 0
  | _, _ => 0
theorem comN_le : ∀ x y : List UInt8, comN x y ≤ x.length ∧ comN x y ≤ y.length
  | [], _ => by simp [comN]
  | _ :: _, [] => by simp [comN]
  | a :: x, b :: y => by
    have := comN_le x y
    simp only [comN, List.length_cons]
    split <;> omega
theorem comN_at : ∀ (x y : List UInt8) (k : Nat), k ≤ comN x y → x.take k = y.take k
  | _, _, 0, _ => by simp
  | [], _, k + 1, h => by simp [comN] at h
  | _ :: _, [], k + 1, h => by simp [comN] at h
  | a :: x, b :: y, k + 1, h => by
    simp only [comN] at h
    split at h
    · next e => rw [List.take_succ_cons, List.take_succ_cons, e, comN_at x y k (by omega)]
    · omega
theorem comN_stop : ∀ (x y : List UInt8) (k : Nat), x.take k = y.take k → k ≤ x.length → k ≤ y.length → (k = x.length ∨ k = y.length ∨ x[k]? ≠ y[k]?) → comN x y = k
  | [], y, k, _, h, _, _ => by simp at h; subst h; simp [comN]
  | _ :: _, [], k, _, _, h, _ => by simp at h; subst h; simp [comN]
  | a :: x, b :: y, 0, _, _, _, h => by
    simp only [comN]
    rw [if_neg]
    intro e
    simp [e] at h
  | a :: x, b :: y, k + 1, he, h1, h2, h3 => by
    rw [List.take_succ_cons, List.take_succ_cons] at he
    injection he with e1 e2
    simp only [comN]
    rw [if_pos e1, comN_stop x y k e2 (by simpa using h1) (by simpa using h2) (by simpa using h3)]
/-- One text stands ahead of another. -/
def ltB (x y : List UInt8) : Bool := Op.bytesLess x y
def longB (L : List (List UInt8)) : Bool := L.any fun s => decide (262144 < s.length)
def riseB (L : List (List UInt8)) : Bool := (List.range (L.length - 1)).all fun i => ltB (L.getD i []) (L.getD (i + 1) [])
/-- What check says of texts that are not too many. -/
def chkE (L : List (List UInt8)) : Int := if longB L = true then 2 else if riseB L = true then 0 else 160
theorem long_yes {L : List (List UInt8)} {i : Nat} (hi : i < L.length) (h : 262144 < (L.getD i []).length) : longB L = true := by
  unfold longB
  rw [List.any_eq_true]
  refine ⟨L[i], List.getElem_mem hi, ?_⟩
  have : L.getD i [] = L[i] := by simp [hi]
  rw [this] at h
  exact decide_eq_true h
theorem long_no {L : List (List UInt8)} (h : ∀ i, i < L.length → (L.getD i []).length ≤ 262144) : longB L = false := by
  unfold longB
  rw [List.any_eq_false]
  intro s hs
  obtain ⟨i, hi, rfl⟩ := List.mem_iff_getElem.1 hs
  have := h i hi
  have e : L.getD i [] = L[i] := by simp [hi]
  rw [e] at this
  simp; omega
theorem rise_no {L : List (List UInt8)} {i : Nat} (h0 : 0 < i) (hi : i < L.length) (h : ltB (L.getD (i - 1) []) (L.getD i []) = false) : riseB L = false := by
  unfold riseB
  rw [List.all_eq_false]
  refine ⟨i - 1, List.mem_range.2 (by omega), ?_⟩
  rw [show i - 1 + 1 = i by omega, h]; simp
theorem rise_yes {L : List (List UInt8)} (h : ∀ i, 0 < i → i < L.length → ltB (L.getD (i - 1) []) (L.getD i []) = true) : riseB L = true := by
  unfold riseB
  rw [List.all_eq_true]
  intro i hi
  have := h (i + 1) (by omega) (by have := List.mem_range.1 hi; omega)
  simpa using this
theorem binOp_string_geq (t : TypeId) (a b : ByteArray) : binOp .geq t (.string a) (.string b) = pure (.bool (!Op.bytesLess a.toList b.toList)) := by simp [binOp, Op.stringOp]
theorem toList_mk (l : List UInt8) : (⟨l.toArray⟩ : ByteArray).toList = l := by rw [Lib.toList_data]
theorem drewN2 (X : World) (a b : Nat) : (X.drewN a).drewN b = X.drewN (a + b) := by simp [World.drewN, Nat.add_assoc]
end Go.Tk
namespace Go.Proofs.YtjgcmnppiaikcaaDoor
open Go.RowKit Go.Tk
set_option maxRecDepth 100000 in
theorem alike_calls (w : World) (x y : List UInt8) (hx : x.length ≤ 1000000000000000) (hy : y.length ≤ 1000000000000000) :
    Calls Tryd.prog 18 #[.string ⟨x.toArray⟩, .string ⟨y.toArray⟩] w fun e w' => e = .returned (.int .i64 (comN x y : Nat)) ∧ ∃ m, w' = w.drewN m := by
  obtain ⟨s, hs⟩ : ∃ s : ByteArray, s = ⟨x.toArray⟩ := ⟨_, rfl⟩
  obtain ⟨t, ht⟩ : ∃ t : ByteArray, t = ⟨y.toArray⟩ := ⟨_, rfl⟩
  have hsl : s.size = x.length := by rw [hs]; simp [ByteArray.size]
  have htl : t.size = y.length := by rw [ht]; simp [ByteArray.size]
  have hsg : ∀ i (h : i < s.size) (h' : i < x.length), s[i] = x[i] := fun i h h' => by subst hs; simp [ByteArray.getElem_eq_getElem_data]
  have htg : ∀ i (h : i < t.size) (h' : i < y.length), t[i] = y[i] := fun i h h' => by subst ht; simp [ByteArray.getElem_eq_getElem_data]
  rw [← hs, ← ht]
  rw [← hsl] at hx
  rw [← htl] at hy
  have HSL := Lib.hid hsl
  have HTL := Lib.hid htl
  have HSG := Lib.hid hsg
  have HTG := Lib.hid htg
  clear hs ht hsl htl hsg htg
  go_enter Tryd.func18, Tryd.ntmps18
  go_wp2
  go_loopw [5] (fun iv wr => ∃ (i m : Nat), iv = .int .i64 (i : Nat) ∧ i ≤ s.size ∧ i ≤ t.size ∧ x.take i = y.take i ∧ wr = w.drewN m) (fun iv _ => s.size - (intOf iv).toNat)
  case atStart => exact ⟨0, 0, rfl, Nat.zero_le _, Nat.zero_le _, by simp, rfl⟩
  case round =>
    obtain ⟨i, m, rfl, h1, h2, he, rfl⟩ := hrel
    have HE := Lib.hid he
    clear he
    have hdone : (i = x.length ∨ i = y.length ∨ x[i]? ≠ y[i]?) → comN x y = i := fun h => comN_stop x y i HE.out (by have := HSL.out; omega) (by have := HTL.out; omega) h
    have HDN := Lib.hid hdone
    clear hdone
    by_cases hs1 : i < s.size
    · by_cases ht1 : i < t.size
      · have hxi : i < x.length := by have := HSL.out; omega
        have hyi : i < y.length := by have := HTL.out; omega
        have hsi := HSG.out i hs1 hxi
        have hti := HTG.out i ht1 hyi
        obtain ⟨p, hp⟩ : ∃ p, p = x[i] := ⟨_, rfl⟩
        obtain ⟨q, hq⟩ : ∃ q, q = y[i] := ⟨_, rfl⟩
        have hpq : (p.toNat : Int) = (q.toNat : Int) ↔ p = q := ⟨fun h => UInt8.toNat.inj (by omega), fun h => by rw [h]⟩
        have hns : s[i].toNat = p.toNat := by rw [hsi, hp]
        have hnt : t[i].toNat = q.toNat := by rw [hti, hq]
        have HP := Lib.hid hp
        have HQ := Lib.hid hq
        have HPQ := Lib.hid hpq
        have HXI := Lib.hid hxi
        have HYI := Lib.hid hyi
        clear hsi hti hp hq hpq
        by_cases hb : (p.toNat : Int) = (q.toNat : Int)
        · have eb : ((p.toNat : Int) == (q.toNat : Int)) = true := by simp [hb]
          have HB := Lib.hid hb
          clear hb
          go_wp2_with fail
          go_quiet (fail)
          go_wp2
          refine ⟨⟨i + 1, _, by go_num, by omega, by omega, ?_, rfl⟩, by simp [intOf]; omega⟩
          rw [List.take_succ_eq_append_getElem HXI.out, List.take_succ_eq_append_getElem HYI.out, HE.out, ← HP.out, ← HQ.out, HPQ.out.1 HB.out]
        · have eb : ((p.toNat : Int) == (q.toNat : Int)) = false := by simp [hb]
          have hc := HDN.out (.inr (.inr (by rw [List.getElem?_eq_getElem HXI.out, List.getElem?_eq_getElem HYI.out, ← HP.out, ← HQ.out]; intro h; exact hb (HPQ.out.2 (Option.some.inj h)))))
          have HC := Lib.hid hc
          clear hb hc
          go_wp2_with fail
          go_quiet (fail)
          go_wp2
          go_ret
          exact ⟨by rw [HC.out]; rfl, _, drewN2 w m nq⟩
      · have hc := HDN.out (.inr (.inl (by have := HTL.out; omega)))
        have HC := Lib.hid hc
        clear hc
        go_wp2_with fail
        go_quiet (fail)
        go_wp2
        go_ret
        exact ⟨by rw [HC.out]; rfl, _, drewN2 w m nq⟩
    · have hc := HDN.out (.inl (by have := HSL.out; omega))
      have HC := Lib.hid hc
      clear hc
      go_wp2_with fail
      go_quiet (fail)
      go_wp2
      go_ret
      exact ⟨by rw [HC.out]; rfl, _, drewN2 w m nq⟩
set_option maxRecDepth 100000 in
theorem common_calls (w : World) (x y : List UInt8) (hx : x.length ≤ 1000000000000000) (hy : y.length ≤ 1000000000000000) :
    Calls Tryd.prog 37 #[.string ⟨x.toArray⟩, .string ⟨y.toArray⟩] w fun e w' => e = .returned (.int .i64 (comN x y : Nat)) ∧ ∃ m, w' = w.drewN m := by
  obtain ⟨s, hs⟩ : ∃ s : ByteArray, s = ⟨x.toArray⟩ := ⟨_, rfl⟩
  obtain ⟨t, ht⟩ : ∃ t : ByteArray, t = ⟨y.toArray⟩ := ⟨_, rfl⟩
  have hsl : s.size = x.length := by rw [hs]; simp [ByteArray.size]
  have htl : t.size = y.length := by rw [ht]; simp [ByteArray.size]
  have hsg : ∀ i (h : i < s.size) (h' : i < x.length), s[i] = x[i] := fun i h h' => by subst hs; simp [ByteArray.getElem_eq_getElem_data]
  have htg : ∀ i (h : i < t.size) (h' : i < y.length), t[i] = y[i] := fun i h h' => by subst ht; simp [ByteArray.getElem_eq_getElem_data]
  rw [← hs, ← ht]
  rw [← hsl] at hx
  rw [← htl] at hy
  have HSL := Lib.hid hsl
  have HTL := Lib.hid htl
  have HSG := Lib.hid hsg
  have HTG := Lib.hid htg
  clear hs ht hsl htl hsg htg
  go_enter Tryd.func37, Tryd.ntmps37
  go_wp2
  go_loopw [5] (fun iv wr => ∃ (i m : Nat), iv = .int .i64 (i : Nat) ∧ i ≤ s.size ∧ i ≤ t.size ∧ x.take i = y.take i ∧ wr = w.drewN m) (fun iv _ => s.size - (intOf iv).toNat)
  case atStart => exact ⟨0, 0, rfl, Nat.zero_le _, Nat.zero_le _, by simp, rfl⟩
  case round =>
    obtain ⟨i, m, rfl, h1, h2, he, rfl⟩ := hrel
    have HE := Lib.hid he
    clear he
    have hdone : (i = x.length ∨ i = y.length ∨ x[i]? ≠ y[i]?) → comN x y = i := fun h => comN_stop x y i HE.out (by have := HSL.out; omega) (by have := HTL.out; omega) h
    have HDN := Lib.hid hdone
    clear hdone
    by_cases hs1 : i < s.size
    · by_cases ht1 : i < t.size
      · have hxi : i < x.length := by have := HSL.out; omega
        have hyi : i < y.length := by have := HTL.out; omega
        have hsi := HSG.out i hs1 hxi
        have hti := HTG.out i ht1 hyi
        obtain ⟨p, hp⟩ : ∃ p, p = x[i] := ⟨_, rfl⟩
        obtain ⟨q, hq⟩ : ∃ q, q = y[i] := ⟨_, rfl⟩
        have hpq : (p.toNat : Int) = (q.toNat : Int) ↔ p = q := ⟨fun h => UInt8.toNat.inj (by omega), fun h => by rw [h]⟩
        have hns : s[i].toNat = p.toNat := by rw [hsi, hp]
        have hnt : t[i].toNat = q.toNat := by rw [hti, hq]
        have HP := Lib.hid hp
        have HQ := Lib.hid hq
        have HPQ := Lib.hid hpq
        have HXI := Lib.hid hxi
        have HYI := Lib.hid hyi
        clear hsi hti hp hq hpq
        by_cases hb : (p.toNat : Int) = (q.toNat : Int)
        · have eb : ((p.toNat : Int) == (q.toNat : Int)) = true := by simp [hb]
          have HB := Lib.hid hb
          clear hb
          go_wp2_with fail
          go_quiet (fail)
          go_wp2
          refine ⟨⟨i + 1, _, by go_num, by omega, by omega, ?_, rfl⟩, by simp [intOf]; omega⟩
          rw [List.take_succ_eq_append_getElem HXI.out, List.take_succ_eq_append_getElem HYI.out, HE.out, ← HP.out, ← HQ.out, HPQ.out.1 HB.out]
        · have eb : ((p.toNat : Int) == (q.toNat : Int)) = false := by simp [hb]
          have hc := HDN.out (.inr (.inr (by rw [List.getElem?_eq_getElem HXI.out, List.getElem?_eq_getElem HYI.out, ← HP.out, ← HQ.out]; intro h; exact hb (HPQ.out.2 (Option.some.inj h)))))
          have HC := Lib.hid hc
          clear hb hc
          go_wp2_with fail
          go_quiet (fail)
          go_wp2
          go_ret
          exact ⟨by rw [HC.out]; rfl, _, drewN2 w m nq⟩
      · have hc := HDN.out (.inr (.inl (by have := HTL.out; omega)))
        have HC := Lib.hid hc
        clear hc
        go_wp2_with fail
        go_quiet (fail)
        go_wp2
        go_ret
        exact ⟨by rw [HC.out]; rfl, _, drewN2 w m nq⟩
    · have hc := HDN.out (.inl (by have := HSL.out; omega))
      have HC := Lib.hid hc
      clear hc
      go_wp2_with fail
      go_quiet (fail)
      go_wp2
      go_ret
      exact ⟨by rw [HC.out]; rfl, _, drewN2 w m nq⟩
end Go.Proofs.YtjgcmnppiaikcaaDoor
