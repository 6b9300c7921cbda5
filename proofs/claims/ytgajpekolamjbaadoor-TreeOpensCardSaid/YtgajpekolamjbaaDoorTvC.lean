/- TvB TvC, laid as one. -/
import Derived.Test.YtgajpekolamjbaaDoorTvA
import Derived.Test.YtgajpekolamjbaaDoorQu
import Derived.Test.YtgajpekolamjbaaDoorHeD
import Derived.Test.YtgajpekolamjbaaDoorSamesameBytes18
import Derived.Test.YtgajpekolamjbaaDoorTrA
import Derived.Deep.CutBlock
set_option linter.unusedVariables false
set_option linter.unusedSimpArgs false
/- A tree in memory; View of any bytes. -/
namespace Go.Proofs.YtgajpekolamjbaaDoor
open Go Go.RowKit Go.Tk
/-- Where a part of a slice begins. -/
def slA (a : Option Addr) (cap p : Nat) : Option Addr := if cap = p then a else Option.map (fun x => x.add p) a
/-- The cells of a level. -/
def lvc (b : List UInt8) (a : Option Addr) (cap : Nat) (p : Option Addr) (k : Nat) : Nat → Value
  | 0 => .int .i64 (tN b k : Nat)
  | 1 => .int .i64 (tW b k : Nat)
  | 2 => .int .i64 (tA b k : Nat)
  | 3 => .int .i64 (tA b k + 1 : Nat)
  | 4 => .int .i64 (tE b k : Nat)
  | 5 => .slice (slA a cap (tA b k + 1)) (tE b k - (tA b k + 1)) (cap - (tA b k + 1))
  | 6 => .slice (slA a cap (tE b k)) (tA b (k + 1) - tE b k) (cap - tE b k)
  | _ => .pointer p
def tvC (b : List UInt8) (a : Option Addr) (cap : Nat) (vp : Nat → Option Addr) (j i : Nat) : Value := if i / 8 < j then lvc b a cap (vp (i / 8)) (i / 8) (i % 8) else tcN b 4 i
/-- A level's vector. -/
def VecK (w : World) (b : List UInt8) (a : Option Addr) (cap : Nat) (p : Option Addr) (k : Nat) : Prop :=
  (tV b k = true → ∃ gv, p = some ⟨gv, 0, none⟩ ∧ VecAt w gv (slA a cap (tE b k)) (cap - tE b k) (tB b k) (tN b k) (tN b (k - 1))) ∧ (tV b k = false → p = none)
theorem VecAt.below8 {w w' gv a c bs n m} (h : VecAt w gv a c bs n m) (hb : Below w.heap.size w w') : VecAt w' gv a c bs n m :=
  ⟨(hb.block gv (lt_of_block h.row)).trans h.row, h.sl.keep hb, h.fit, h.mn, h.nN⟩
/-- The tree that View makes of bytes, where it lies. -/
structure TreeM (w : World) (gd : Nat) (b : List UInt8) (a : Option Addr) (cap : Nat) (vp : Nat → Option Addr) : Prop where
  row : RowC w gd 32 47 (tvC b a cap vp 4)
  sl : SlI .u8 w a b.length cap (nums b)
  nil : a = none → cap = 0
  vec : ∀ k, k < 4 → VecK w b a cap (vp k) k
  ok : vwE b = (0, 0)
/-- What View and Open hand back. -/
def OpenT (w : World) (b : List UInt8) (a : Option Addr) (cap : Nat) (er : Int × Nat) (e : Ending) (w' : World) : Prop :=
  Below w.heap.size w w' ∧ ((er.1 ≠ 0 ∧ ∃ v, e = .returned (.tuple #[.pointer none, v]) ∧ EV w' v er.2 er.1) ∨
    (er.1 = 0 ∧ ∃ gd vp, w.heap.size ≤ gd ∧ e = .returned (.tuple #[.pointer (some ⟨gd, 0, none⟩), .nilIface]) ∧ TreeM w' gd b a cap vp))
theorem VecK.below {w w' : World} {b : List UInt8} {a : Option Addr} {cap : Nat} {p : Option Addr} {k : Nat} (h : VecK w b a cap p k) (hb : Below w.heap.size w w') : VecK w' b a cap p k :=
  ⟨fun hv => by obtain ⟨gv, h1, h2⟩ := h.1 hv; exact ⟨gv, h1, h2.below8 hb⟩, h.2⟩
theorem VecK.kept {w w' : World} {b : List UInt8} {a : Option Addr} {cap : Nat} {p : Option Addr} {k g : Nat} (h : VecK w b a cap p k) (hk : Kept (fun x => x = g) w w') (hp : ∀ x, p = some x → x.block ≠ g) (ha : ∀ x, a = some x → x.block ≠ g) : VecK w' b a cap p k :=
  ⟨fun hv => by
    obtain ⟨gv, h1, h2⟩ := h.1 hv
    refine ⟨gv, h1, (hk.block gv (lt_of_block h2.row) (hp _ h1)).trans h2.row, h2.sl.kept hk (fun x hx => ?_), h2.fit, h2.mn, h2.nN⟩
    unfold slA at hx
    split at hx
    · exact ha x hx
    · cases a with
      | none => simp at hx
      | some y =>
        simp at hx
        have := ha y rfl
        rw [← hx]
        unfold Addr.add
        split <;> exact this, h.2⟩
theorem vec_ne {w : World} {gv gd : Nat} {a : Option Addr} {c : Nat} {bs : List UInt8} {n m : Nat} {cs : Nat → Value} (h : VecAt w gv a c bs n m) (hr : RowC w gd 32 47 cs) : gv ≠ gd := fun e => by
  have h1 := h.row
  rw [e] at h1
  have h2 := Option.some.inj (h1.symm.trans hr)
  injection h2 with _ h3 _
  exact absurd h3 (by decide)
theorem VecK.stay {w w' : World} {b : List UInt8} {a : Option Addr} {cap : Nat} {p : Option Addr} {k gd : Nat} {cs : Nat → Value} (h : VecK w b a cap p k) (hr : RowC w gd 32 47 cs) (hk : Kept (fun x => x = gd) w w') (ha : ∀ x, a = some x → x.block ≠ gd) : VecK w' b a cap p k := by
  cases hv : tV b k with
  | true =>
    obtain ⟨gv, h1, h2⟩ := h.1 hv
    exact h.kept hk (fun x hx => by rw [h1] at hx; cases hx; exact vec_ne h2 hr) ha
  | false => exact ⟨(fun e => by rw [hv] at e; cases e), fun _ => h.2 hv⟩
theorem tvlen_calls {w gv a c bs n m} (h : VecAt w gv a c bs n m) : Calls Tryd.prog 17 #[.pointer (some ⟨gv, 0, none⟩)] w fun e w' => e = .returned (.int .i64 (n : Nat)) ∧ w = w' := by
  have k1 := h.k1
  clear h
  go_enter Tryd.func17, Tryd.ntmps17
  go_wp2
  go_ret
  exact ⟨rfl, rfl⟩
theorem vw_no (w : World) (a : Option Addr) (l c : Nat) (bs : List UInt8) (hl : bs.length = l) (hs : SlI .u8 w a l c (nums bs)) (hf : (fV bs).2 ≠ 0) :
    Calls Tryd.prog 16 #[.slice a l c] w fun e w' => ∃ i, e = .returned (.tuple #[.pointer none, .iface 61 (.pointer (some ⟨i, 0, none⟩))]) ∧ Below w.heap.size w w' := by
  subst hl
  refine (view_any w a c bs hs).mono fun e w' ⟨p, v, h1, h2, h3, h4⟩ => ?_
  rcases h4 with ⟨_, rfl⟩ | ⟨h0, _⟩
  · obtain ⟨i, rfl⟩ := h2.some (by omega)
    exact ⟨i, h1, h3⟩
  · exact absurd h0 hf
theorem vw_yes (w : World) (a : Option Addr) (l c : Nat) (bs : List UInt8) (hl : bs.length = l) (hs : SlI .u8 w a l c (nums bs)) (hf : (fV bs).2 = 0) :
    Calls Tryd.prog 16 #[.slice a l c] w fun e w' => ∃ gv, e = .returned (.tuple #[.pointer (some ⟨gv, 0, none⟩), .nilIface]) ∧ Below w.heap.size w w' ∧ VecAt w' gv a c bs (f4 bs 0) (f4 bs 4) := by
  subst hl
  refine (view_any w a c bs hs).mono fun e w' ⟨p, v, h1, h2, h3, h4⟩ => ?_
  rcases h4 with ⟨h0, _⟩ | ⟨_, gv, rfl, hv⟩
  · exact absurd hf h0
  · rw [hf] at h2
    have := h2.none
    subst this
    exact ⟨gv, h1, h3, hv⟩
theorem TreeM.below {w w' : World} {gd : Nat} {b : List UInt8} {a : Option Addr} {cap : Nat} {vp : Nat → Option Addr} (h : TreeM w gd b a cap vp) (hb : Below w.heap.size w w') : TreeM w' gd b a cap vp :=
  ⟨h.row.below hb, h.sl.keep hb, h.nil, fun k hk => (h.vec k hk).below hb, h.ok⟩
theorem RowC.to {w : World} {g N : Nat} {T : TypeId} {cs cs' : Nat → Value} (h : RowC w g N T cs) (hc : ∀ i, i < N → cs' i = cs i) : RowC w g N T cs' := by
  have e : rowC N cs' = rowC N cs := by
    apply Array.ext_getElem?
    intro i
    by_cases hi : i < N
    · rw [rowC_at hi, rowC_at hi, hc i hi]
    · rw [Array.getElem?_eq_none (by simp [rowC]; omega), Array.getElem?_eq_none (by simp [rowC]; omega)]
  unfold RowC; rw [e]; exact h
theorem size_oE (n m : Nat) : sizeI (n : Nat) (m : Nat) = (oE n m : Nat) := by unfold sizeI oE oM oS oG; omega
/-- Behind the six fields and the vector's a level is done. -/
theorem lv_done (b : List UInt8) (a : Option Addr) (cap : Nat) (vp : Nat → Option Addr) (k : Nat) (hk : k < 4) (p : Option Addr) (C : Nat → Value)
    (hC : ∀ i, i < 32 → C i = if i = k * 8 + 7 then .pointer p else setF (setF (setF (setF (setF (setF (tvC b a cap vp k) (k * 8 + 2) (.int .i64 (tA b k : Nat))) (k * 8 + 1) (.int .i64 (tW b k : Nat))) (k * 8 + 3) (.int .i64 (tA b k + 1 : Nat))) (k * 8 + 4) (.int .i64 (tE b k : Nat))) (k * 8 + 5) (.slice (slA a cap (tA b k + 1)) (tE b k - (tA b k + 1)) (cap - (tA b k + 1)))) (k * 8 + 6) (.slice (slA a cap (tE b k)) (tA b (k + 1) - tE b k) (cap - tE b k)) i) :
    ∀ i, i < 32 → tvC b a cap (fun j => if j = k then p else vp j) (k + 1) i = C i := by
  intro i hi
  rw [hC i hi]
  by_cases hik : i / 8 = k
  · have e : tvC b a cap (fun j => if j = k then p else vp j) (k + 1) i = lvc b a cap p k (i % 8) := by
      unfold tvC; rw [if_pos (by omega), hik]; simp
    rw [e]
    have h8 : i = k * 8 + i % 8 := by omega
    have hm8 : i % 8 < 8 := Nat.mod_lt _ (by omega)
    generalize i % 8 = f at h8 hm8 ⊢
    subst h8
    rcases eight hm8 with rfl | rfl | rfl | rfl | rfl | rfl | rfl | rfl
    · rw [if_neg (by omega), setF_other _ _ (by omega), setF_other _ _ (by omega), setF_other _ _ (by omega), setF_other _ _ (by omega), setF_other _ _ (by omega), setF_other _ _ (by omega)]
      unfold tvC
      rw [if_neg (by omega), Nat.add_zero, tcN_at b hk]; rfl
    · rw [if_neg (by omega), setF_other _ _ (by omega), setF_other _ _ (by omega), setF_other _ _ (by omega), setF_other _ _ (by omega), setF_same]; rfl
    · rw [if_neg (by omega), setF_other _ _ (by omega), setF_other _ _ (by omega), setF_other _ _ (by omega), setF_other _ _ (by omega), setF_other _ _ (by omega), setF_same]; rfl
    · rw [if_neg (by omega), setF_other _ _ (by omega), setF_other _ _ (by omega), setF_other _ _ (by omega), setF_same]; rfl
    · rw [if_neg (by omega), setF_other _ _ (by omega), setF_other _ _ (by omega), setF_same]; rfl
    · rw [if_neg (by omega), setF_other _ _ (by omega), setF_same]; rfl
    · rw [if_neg (by omega), setF_same]; rfl
    · rw [if_pos (by omega)]; rfl
  · have e : tvC b a cap (fun j => if j = k then p else vp j) (k + 1) i = tvC b a cap vp k i := by
      unfold tvC
      by_cases hlt2 : i / 8 < k
      · rw [if_pos (by omega), if_pos hlt2]; simp only [if_neg hik]
      · rw [if_neg (by omega), if_neg hlt2]
    rw [e, if_neg (by omega), setF_other _ _ (by omega), setF_other _ _ (by omega), setF_other _ _ (by omega), setF_other _ _ (by omega), setF_other _ _ (by omega), setF_other _ _ (by omega)]
/-- A level is set, field by field. -/
def lvS (b : List UInt8) (a : Option Addr) (cap : Nat) (p : Option Addr) (k m : Nat) (cs : Nat → Value) (i : Nat) : Value := if i / 8 = k ∧ 0 < i % 8 ∧ i % 8 < m then lvc b a cap p k (i % 8) else cs i
end Go.Proofs.YtgajpekolamjbaaDoor
/- View of any bytes of a tree. -/
namespace Go.Proofs.YtgajpekolamjbaaDoor
open Go Go.RowKit Go.Tk
theorem tvC_zero (b : List UInt8) (a : Option Addr) (cap : Nat) (vp : Nat → Option Addr) : tvC b a cap vp 0 = tcN b 4 := by funext i; unfold tvC; rw [if_neg (by omega)]
theorem tz_row (w : World) : RowC (w.alloc (.cells (rowC 32 tz) 47)) w.heap.size 32 47 tz := heap_alloc_new _ _
theorem tz_lit : rowC 32 tz = #[.int .i64 0, .int .i64 0, .int .i64 0, .int .i64 0, .int .i64 0, .slice none 0 0, .slice none 0 0, .pointer none, .int .i64 0, .int .i64 0, .int .i64 0, .int .i64 0, .int .i64 0, .slice none 0 0, .slice none 0 0, .pointer none, .int .i64 0, .int .i64 0, .int .i64 0, .int .i64 0, .int .i64 0, .slice none 0 0, .slice none 0 0, .pointer none, .int .i64 0, .int .i64 0, .int .i64 0, .int .i64 0, .int .i64 0, .slice none 0 0, .slice none 0 0, .pointer none] := by rfl
theorem counts_no (w : World) (gd c : Nat) (a : Option Addr) (cap : Nat) (b : List UInt8) (hT : RowC w gd 32 47 tz) (hC : CurC w c a cap (nums b) 0 0) (hgc : gd ≠ c) (hga : ∀ x, a = some x → x.block ≠ gd) (y : Int) (x : Nat) (he : cnE b 4 = (y, x)) (hy : y ≠ 0) :
    Calls Tryd.prog 12 #[.pointer (some ⟨gd, 0, none⟩), .pointer (some ⟨c, 0, none⟩)] w fun e w' => ∃ i, e = .returned (.iface 61 (.pointer (some ⟨i, 0, none⟩))) ∧ EV w' (.iface 61 (.pointer (some ⟨i, 0, none⟩))) (x : Nat) y ∧ Kept (fun g => g = gd ∨ g = c) w w' := by
  refine (counts_calls w gd c a cap b hT hC hgc hga).mono fun e w' h => ?_
  obtain ⟨hk, h⟩ := h
  rw [he] at h
  rcases h with ⟨_, v, h1, h2⟩ | ⟨h0, _⟩
  · obtain ⟨i, rfl⟩ := h2.some hy
    exact ⟨i, h1, h2, hk⟩
  · exact absurd h0 hy
theorem counts_yes (w : World) (gd c : Nat) (a : Option Addr) (cap : Nat) (b : List UInt8) (hT : RowC w gd 32 47 tz) (hC : CurC w c a cap (nums b) 0 0) (hgc : gd ≠ c) (hga : ∀ x, a = some x → x.block ≠ gd) (he : (cnE b 4).1 = 0) :
    Calls Tryd.prog 12 #[.pointer (some ⟨gd, 0, none⟩), .pointer (some ⟨c, 0, none⟩)] w fun e w' => e = .returned .nilIface ∧ RowC w' gd 32 47 (tcN b 4) ∧ CurC w' c a cap (nums b) (tPl b 4) 0 ∧ Kept (fun g => g = gd ∨ g = c) w w' := by
  refine (counts_calls w gd c a cap b hT hC hgc hga).mono fun e w' h => ?_
  obtain ⟨hk, h⟩ := h
  rcases h with ⟨h0, _⟩ | ⟨_, h1, h2, h3⟩
  · exact absurd he h0
  · exact ⟨h1, h2, h3, hk⟩
set_option maxRecDepth 100000 in
set_option maxHeartbeats 3000000 in
theorem tview_calls (w : World) (a : Option Addr) (cap : Nat) (b : List UInt8) (hs : SlI .u8 w a b.length cap (nums b)) (hn : a = none → cap = 0) (ha : ∀ x, a = some x → x.block < w.heap.size) (hlen : b.length ≤ 140737488355328) :
    Calls Tryd.prog 5 #[.slice a b.length cap] w (OpenT w b a cap (vwE b)) := by
  have HS := Lib.hid hs
  have HN := Lib.hid hn
  have HA := Lib.hid ha
  have hcl := hs.le
  have hcm := hs.max
  clear hs hn ha
  go_enter Tryd.func5, Tryd.ntmps5
  go_upto_region 2 with fail
  rw [← tz_lit]
  have ht0 := tz_row w
  have hb0 : Below w.heap.size w (w.alloc (.cells (rowC 32 tz) 47)) := (Below.refl _ w).alloc (Nat.le_refl _) _
  have hz0 : (w.alloc (.cells (rowC 32 tz) 47)).heap.size = w.heap.size + 1 := by simp
  generalize w.alloc (.cells (rowC 32 tz) 47) = w1 at ht0 hb0 hz0 ⊢
  obtain ⟨gd, hgd⟩ : ∃ gd, gd = w.heap.size := ⟨_, rfl⟩
  rw [← hgd] at ht0 hz0 ⊢
  have HS1 := Lib.hid (HS.out.keep hb0)
  have hga : ∀ x, a = some x → x.block ≠ gd := fun x hx => by have := HA.out x hx; omega
  have HGA := Lib.hid hga
  have HA1 := Lib.hid (fun x (hx : a = some x) => show x.block < w1.heap.size by have := HA.out x hx; omega)
  have HB0 := Lib.hid hb0
  have HT0 := Lib.hid ht0
  have hwg : w.heap.size ≤ gd := by omega
  have hw1g : w.heap.size ≤ w1.heap.size := by omega
  have hgc : gd ≠ w1.heap.size := by omega
  have ROOT := Lib.hid (show (lvE b 0) = cnE b 4 from rfl)
  clear hb0 ht0 hga hgd hz0
  obtain ⟨⟨y4, x4⟩, h44⟩ : ∃ t : Int × Nat, t = cnE b 4 := ⟨_, rfl⟩
  by_cases hcn : y4 = 0
  rotate_left
  · have hvw : vwE b = (y4, x4) := by
      have := lv_stop b (k := 0) (j := 4) (by omega) (by rw [ROOT.out, ← h44]; exact hcn)
      unfold vwE
      rw [this, ROOT.out, ← h44, if_pos hcn]
    have HVW := Lib.hid hvw
    have HCN := Lib.hid hcn
    have H44 := Lib.hid h44.symm
    clear hvw hcn h44
    go_wp2_with (first
      | (go_at_call 11; refine (rdC_calls w1 a _ cap (nums b) HS1.out HN.out HA1.out).mono ?_; rintro e w2 ⟨rfl, hC, k2⟩; (have HC2 := Lib.hid hC); (have HT2 := Lib.hid (HT0.out.kept k2 (fun h => h))); (have HB2 := Lib.hid (HB0.out.trans (Kept.below k2 hw1g (fun _ h => h.elim)))); (have hz2 := HB2.out.size); clear hC k2)
      | (go_at_call 12; (with_reducible refine (counts_no w2 gd w1.heap.size a cap b HT2.out HC2.out hgc HGA.out y4 x4 H44.out HCN.out).mono ?_); rintro e w3 ⟨i3, rfl, hev3, k3⟩; (have HB3 := Lib.hid (HB2.out.trans (Kept.below k3 hz2 (fun k hk => by rcases hk with rfl | rfl <;> omega)))); (have HEV3 := Lib.hid hev3); clear k3 hev3))
    go_ret2
    rw [HVW.out]
    exact ⟨HB3.out, .inl ⟨HCN.out, _, rfl, HEV3.out⟩⟩
  · have HCN := Lib.hid (show (cnE b 4).1 = 0 by rw [← h44]; exact hcn)
    clear hcn h44
    go_upto_region 7 with (first
      | (go_at_call 11; refine (rdC_calls w1 a _ cap (nums b) HS1.out HN.out HA1.out).mono ?_; rintro e w2 ⟨rfl, hC, k2⟩; (have HC2 := Lib.hid hC); (have HT2 := Lib.hid (HT0.out.kept k2 (fun h => h))); (have HB2 := Lib.hid (HB0.out.trans (Kept.below k2 hw1g (fun _ h => h.elim)))); (have hz2 := HB2.out.size); clear hC k2)
      | (go_at_call 12; (with_reducible refine (counts_yes w2 gd w1.heap.size a cap b HT2.out HC2.out hgc HGA.out HCN.out).mono ?_); rintro e w3 ⟨rfl, ht3, hc3, k3⟩; (have HB3 := Lib.hid (HB2.out.trans (Kept.below k3 hz2 (fun k hk => by rcases hk with rfl | rfl <;> omega)))); (have HT3 := Lib.hid ht3); (have HC3 := Lib.hid hc3); clear k3 ht3 hc3)
      | (go_at_call 13; refine (at_calls w3 _ a cap (nums b) (tPl b 4) 0 HC3.out).mono ?_; rintro e w4 ⟨rfl, rfl⟩))
    rename World => w3
    have HT := Lib.hid HT3.out
    have hok0 := lv_ok (b := b) (j := 0) (by rw [ROOT.out]; exact HCN.out)
    have HCNK := Lib.hid hok0.2.1
    clear hok0 HS1 HA1 HT0 HB0 HC2 HT2 HB2 HT3 HC3
    go_wp2_with fail
    go_loopw [7, 24] (fun av kv wr => ∃ (k : Nat) (vp : Nat → Option Addr), kv = .int .i64 (k : Nat) ∧ av = .int .i64 (tA b k : Nat) ∧ k ≤ 4 ∧ (lvE b k).1 = 0 ∧ RowC wr gd 32 47 (tvC b a cap vp k) ∧ (∀ j, j < k → VecK wr b a cap (vp j) j) ∧ Below w.heap.size w wr) (fun _ kv _ => 4 - (intOf kv).toNat)
    case atStart => exact ⟨0, fun _ => none, rfl, rfl, Nat.zero_le _, (by rw [ROOT.out]; exact HCN.out), by rw [tvC_zero]; exact HT.out, (fun j hj => by omega), HB3.out⟩
    case round =>
      rename World => wr
      obtain ⟨k, vp, rfl, rfl, hk, hlv, hrow, hvec, hbw⟩ := hrel
      have HLV := Lib.hid hlv
      have HROW := Lib.hid hrow
      have HVEC := Lib.hid hvec
      have HBW := Lib.hid hbw
      have hzr := hbw.size
      have HSR := Lib.hid (HS.out.keep hbw)
      clear hlv hrow hvec hbw HT HB3
      by_cases hk4 : k < 4
      · have hlok := lv_ok HLV.out
        have hcnk := HCNK.out k hk4
        have hlvE : (lE b k).1 ≠ 0 → vwE b = lE b k := fun h => by
          have e : lvE b (k + 1) = lE b k := by simp only [lvE]; rw [if_neg (by rw [HLV.out]; simp)]
          have e4 : lvE b 4 = lE b k := by rw [← e]; exact lv_stop b (by omega) (by rw [e]; exact h)
          unfold vwE; rw [e4, if_pos h]
        have hlvG : (lE b k).1 = 0 → (lvE b (k + 1)).1 = 0 := fun h => by simp only [lvE]; rw [if_neg (by rw [HLV.out]; simp), h]
        obtain ⟨ea, hea⟩ : ∃ ea, ea = tA b k := ⟨_, rfl⟩
        obtain ⟨wd, hwd⟩ : ∃ wd, wd = tW b k := ⟨_, rfl⟩
        obtain ⟨nx, hnx⟩ : ∃ nx, nx = tA b (k + 1) := ⟨_, rfl⟩
        obtain ⟨nk, hnk⟩ : ∃ nk, nk = tN b k := ⟨_, rfl⟩
        obtain ⟨en, hen⟩ : ∃ en, en = tE b k := ⟨_, rfl⟩
        obtain ⟨bl, hbl⟩ : ∃ bl, bl = b.length := ⟨_, rfl⟩
        have hlE : lE b k = if bl ≤ ea then (10, bl) else if 23 < wd then (14, ea) else if bl < nx then (10, bl) else (0, 0) := by unfold lE; rw [← hea, ← hwd, ← hnx, ← hbl]
        have hnk2 : nk ≤ 1048576 := by rw [hnk]; exact hcnk.le
        rw [← hea, ← hbl]
        rw [← hbl] at hlen hcl
        have HLE := Lib.hid hlE
        have HVE := Lib.hid hlvE
        have HVG := Lib.hid hlvG
        have HEA := Lib.hid hea
        have HWD := Lib.hid hwd
        have HNX := Lib.hid hnx
        have HNK := Lib.hid hnk
        have HEN := Lib.hid hen
        have HBL := Lib.hid hbl
        have HUP := Lib.hid hcnk.up
        clear hlok hcnk hlvE hlvG hea hwd hnx hnk hen hbl hlE
        by_cases h1 : bl ≤ ea
        · have hl := HLE.out
          rw [if_pos h1] at hl
          have hv := HVE.out (by rw [hl]; simp)
          rw [hl] at hv
          have HV := Lib.hid hv
          have d1 : decide ((bl : Int) ≤ (ea : Int)) = true := decide_eq_true (by omega)
          have d2 : decide (bl ≤ ea) = true := decide_eq_true h1
          clear hl hv
          go_wp2_with (go_at_call 14; (with_reducible refine (twrong_calls _ _ _).mono ?_); rintro e w9 ⟨b9, rfl, hb9, hr9, hbe9⟩; (have HR9 := Lib.hid hr9); (have HBE9 := Lib.hid hbe9); clear hr9 hbe9)
          go_ret2
          rw [HV.out]
          exact ⟨HBW.out.trans (HBE9.out.mono hzr), .inl ⟨by simp, _, rfl, .inr ⟨_, by simp, rfl, HR9.out⟩⟩⟩
        · have hl := HLE.out
          rw [if_neg h1] at hl
          have HLE1 := Lib.hid hl
          have d1 : decide ((bl : Int) ≤ (ea : Int)) = false := decide_eq_false (by omega)
          have d2 : decide (bl ≤ ea) = false := decide_eq_false h1
          have hlt : ea < bl := by omega
          clear hl HLE
          obtain ⟨bb, bo, ha, hcb⟩ := HSR.out.cell ea (by rw [← HBL.out]; exact hlt)
          have hby : (nums b).getD ea 0 = (wd : Nat) := by
            rw [HWD.out]
            unfold tW bAt
            rw [← HEA.out, nums_getD _ _ (by rw [← HBL.out]; exact hlt)]
            simp [show ea < b.length by rw [← HBL.out]; exact hlt]
          rw [hby] at hcb
          have hwd8 : wd < 256 := by rw [HWD.out]; exact UInt8.toNat_lt _
          have c2 := HROW.out.cell (i := k * 8 + 2) (by omega)
          have c1 := HROW.out.cell (i := k * 8 + 1) (by omega)
          have f2 := HROW.out.frozen (k * 8 + 2)
          have f1 := HROW.out.frozen (k * 8 + 1)
          have hr2 := (HROW.out.set (k * 8 + 2) (.int .i64 (ea : Nat))).set (k * 8 + 1) (.int .i64 (wd : Nat))
          have hb2 := (HBW.out.setCell (p := ⟨gd, k * 8 + 2, none⟩) hwg (.int .i64 (ea : Nat))).setCell (p := ⟨gd, k * 8 + 1, none⟩) hwg (.int .i64 (wd : Nat))
          have hkp5 := ((Kept.refl (fun x => x = gd) wr).setCell (p := ⟨gd, k * 8 + 2, none⟩) (.inl rfl) (.int .i64 (ea : Nat))).setCell (p := ⟨gd, k * 8 + 1, none⟩) (.inl rfl) (.int .i64 (wd : Nat))
          have HA' := Lib.hid ha
          subst ha
          go_upto_region 14 with fail
          generalize (wr.setCell ⟨gd, k * 8 + 2, none⟩ (.int .i64 (ea : Nat))).setCell ⟨gd, k * 8 + 1, none⟩ (.int .i64 (wd : Nat)) = w5 at hr2 hb2 hkp5 ⊢
          have HR5 := Lib.hid hr2
          have HB5 := Lib.hid hb2
          have HK5 := Lib.hid hkp5
          have hz5 := hb2.size
          have c51 : w5.cell? ⟨gd, k * 8 + 1, none⟩ = some (.int .i64 (wd : Nat)) := by rw [hr2.cell (by omega), setF_same]
          clear c1 c2 f1 f2 hr2 hb2 hkp5 hcb
          by_cases h2 : 23 < wd
          · have hl := HLE1.out
            rw [if_pos h2] at hl
            have hv := HVE.out (by rw [hl]; simp)
            rw [hl] at hv
            have HV := Lib.hid hv
            have d3 : decide ((23 : Int) < (wd : Int)) = true := decide_eq_true (by omega)
            have d4 : decide (23 < wd) = true := decide_eq_true h2
            clear hl hv
            go_wp2_with (go_at_call 14; (with_reducible refine (twrong_calls _ _ _).mono ?_); rintro e w9 ⟨b9, rfl, hb9, hr9, hbe9⟩; (have HR9 := Lib.hid hr9); (have HBE9 := Lib.hid hbe9); clear hr9 hbe9)
            go_ret2
            rw [HV.out]
            exact ⟨HB5.out.trans (HBE9.out.mono hz5), .inl ⟨by simp, _, rfl, .inr ⟨_, by simp, rfl, HR9.out⟩⟩⟩
          · have hl := HLE1.out
            rw [if_neg h2] at hl
            have HLE2 := Lib.hid hl
            have d3 : decide ((23 : Int) < (wd : Int)) = false := decide_eq_false (by omega)
            have d4 : decide (23 < wd) = false := decide_eq_false h2
            have hwd2 : wd ≤ 23 := by omega
            obtain ⟨m, hm⟩ : ∃ m : Nat, m = nk * wd := ⟨_, rfl⟩
            have hm2 : m ≤ 24117248 := by rw [hm]; exact Nat.le_trans (Nat.mul_le_mul hnk2 hwd2) (by decide)
            have hmul : (nk : Int) * (wd : Int) = (m : Int) := by rw [hm]; exact (Int.natCast_mul nk wd).symm
            have henE : en = ea + 1 + (m + 7) / 8 := by rw [HEN.out]; unfold tE; rw [← HEA.out, ← HNK.out, ← HWD.out, hm]
            have henI : (ea : Int) + 1 + ((m : Int) + 7) / 8 = (en : Int) := by omega
            have hen2 : en ≤ 150000000000000 := by omega
            have HENE := Lib.hid henE
            clear hl hm henE HLE1
            have c53 := HR5.out.cell (i := k * 8 + 3) (by omega)
            have f53 := HR5.out.frozen (k * 8 + 3)
            have hr6 := HR5.out.set (k * 8 + 3) (.int .i64 ((ea : Int) + 1))
            have hb6 := HB5.out.setCell (p := ⟨gd, k * 8 + 3, none⟩) hwg (.int .i64 ((ea : Int) + 1))
            have hkp6 := HK5.out.setCell (p := ⟨gd, k * 8 + 3, none⟩) (.inl rfl) (.int .i64 ((ea : Int) + 1))
            go_upto_region 17 with fail
            generalize w5.setCell ⟨gd, k * 8 + 3, none⟩ (.int .i64 ((ea : Int) + 1)) = w6 at hr6 hb6 hkp6 ⊢
            have hz6 := hb6.size
            have c63 : w6.cell? ⟨gd, k * 8 + 3, none⟩ = some (.int .i64 ((ea : Int) + 1)) := by rw [hr6.cell (by omega), setF_same]
            have c61 : w6.cell? ⟨gd, k * 8 + 1, none⟩ = some (.int .i64 (wd : Nat)) := by rw [hr6.cell (by omega), setF_other _ _ (by omega), setF_same]
            have c60 : w6.cell? ⟨gd, k * 8, none⟩ = some (.int .i64 (nk : Nat)) := by
              rw [hr6.cell (by omega), setF_other _ _ (by omega), setF_other _ _ (by omega), setF_other _ _ (by omega)]
              unfold tvC
              rw [if_neg (by omega), tcN_at b hk4, ← HNK.out]
            have c64 := hr6.cell (i := k * 8 + 4) (by omega)
            have f64 := hr6.frozen (k * 8 + 4)
            have hr7 := fun q => (hr6.drewN q).set (k * 8 + 4) (.int .i64 (en : Nat))
            have hb7 := fun q => (below_drewN hb6 q).setCell (p := ⟨gd, k * 8 + 4, none⟩) hwg (.int .i64 (en : Nat))
            have hkp7 := fun q => (hkp6.drewN q).setCell (p := ⟨gd, k * 8 + 4, none⟩) (.inl rfl) (.int .i64 (en : Nat))
            have HR7 := Lib.hid hr7
            have HB7 := Lib.hid hb7
            have HK7 := Lib.hid hkp7
            clear hr6 hb6 hkp6 hkp7 hr7 hb7 c51 c53 f53 HR5 HB5 h1 h2
            refine wp_region_quiet_tail (fun w' => ∃ n, w' = World.drewN _ n) 17 (by kernel_rfl) (by kernel_rfl) ⟨1, rfl⟩ ?_
            simp only [List.take_succ_cons, List.take_zero, List.drop_succ_cons, List.drop_zero]
            repeat (go_big_quiet_step (fail))
            refine wpQuiet_nil ?_
            rintro _ ⟨q7, rfl⟩
            go_upto_region 18 with fail
            have hr7 := HR7.out q7
            have hb7 := HB7.out q7
            have hkp7 := HK7.out q7
            generalize (w6.drewN q7).setCell ⟨gd, k * 8 + 4, none⟩ (.int .i64 (en : Nat)) = w8 at hr7 hb7 hkp7 ⊢
            have hz8 := hb7.size
            have c84 : w8.cell? ⟨gd, k * 8 + 4, none⟩ = some (.int .i64 (en : Nat)) := by rw [hr7.cell (by omega), setF_same]
            have c80 : w8.cell? ⟨gd, k * 8, none⟩ = some (.int .i64 (nk : Nat)) := by
              rw [hr7.cell (by omega), setF_other _ _ (by omega), setF_other _ _ (by omega), setF_other _ _ (by omega), setF_other _ _ (by omega)]
              unfold tvC
              rw [if_neg (by omega), tcN_at b hk4, ← HNK.out]
            have hgz8 : gd < w8.heap.size := hr7.lt
            have HR8 := Lib.hid hr7
            have HB8 := Lib.hid hb7
            have HK8 := Lib.hid hkp7
            clear hr7 hb7 hkp7 HK5 HK7 c63 c61 c60 c64 f64 HR7 HB7
            go_upto_if 87 with fail
            go_cut [7] from 25 to 102 (fun s7 wx => s7 = .int .i64 (nx : Nat) ∧ Below w8.heap.size w8 wx)
            case first =>
              have hnxe : nx = en + if k = 0 then 0 else oE nk (tN b (k - 1)) := by rw [HNX.out, tA_succ, ← HEN.out, ← HNK.out]
              by_cases hk0 : k = 0
              · have dk : decide (0 < k) = false := decide_eq_false (by omega)
                have dz : ¬ 0 < k := by omega
                rw [if_pos hk0] at hnxe
                have hnx2 : nx = en := by omega
                have HNX2 := Lib.hid hnx2
                clear hnxe hk0 hnx2
                rw [dk]
                go_wp2_with fail
                go_meet
                exact ⟨by rw [HNX2.out], Below.refl _ _⟩
              · have dk : decide (0 < k) = true := decide_eq_true (by omega)
                rw [if_neg hk0] at hnxe
                obtain ⟨k1, hk1⟩ : ∃ k1 : Nat, k1 = k - 1 := ⟨_, rfl⟩
                have hk5 : (k : Int) - 1 = (k1 : Int) := by omega
                have hk6 : k1 < 4 := by omega
                have hk7 : IntKind.i64.wrap (k1 : Int) = (k1 : Int) := by rw [IntKind.wrap_i64]; omega
                rw [← hk1] at hnxe
                obtain ⟨n1, hn1⟩ : ∃ n1, n1 = tN b k1 := ⟨_, rfl⟩
                have hn1k : n1 ≤ nk := by
                  have := (HUP.out (by omega)).1
                  rw [← hk1, ← hn1, ← HNK.out] at this
                  exact this
                rw [← hn1] at hnxe
                have c81 : w8.cell? ⟨gd, k1 * 8, none⟩ = some (.int .i64 (n1 : Nat)) := by
                  rw [HR8.out.cell (by omega), setF_other _ _ (by omega), setF_other _ _ (by omega), setF_other _ _ (by omega), setF_other _ _ (by omega)]
                  unfold tvC
                  rw [if_pos (by omega), show k1 * 8 / 8 = k1 by omega, show k1 * 8 % 8 = 0 by omega]
                  show some (Value.int .i64 (tN b k1 : Nat)) = _
                  rw [← hn1]
                have hoE : oE nk n1 ≤ 10000000 := by unfold oE oM oS oG; omega
                have hadd : (en : Int) + ((oE nk n1 : Nat) : Int) = (nx : Int) := by rw [hnxe]; omega
                have hwnx : IntKind.i64.wrap (nx : Int) = (nx : Int) := by rw [IntKind.wrap_i64]; omega
                clear hnxe hk0 hk1 hn1
                rw [dk]
                go_upto_region 20 with fail
                refine wp_region_quiet_tail (fun w' => Below w8.heap.size w8 w') 15 (by kernel_rfl) (by kernel_rfl) (below_drewN (Below.refl _ _) 1) ?_
                simp only [List.take_succ_cons, List.take_zero, List.drop_succ_cons, List.drop_zero]
                refine wq_val (.int .i64 (en : Nat)) rfl (fun w' h => by simp [go_sem]) ?_
                refine wq_val (.pointer (some ⟨gd, k * 8, none⟩)) rfl (fun w' h => by simp [go_sem]) ?_
                refine wq_val (.pointer (some ⟨gd, k * 8, none⟩)) rfl (fun w' h => by simp [go_sem]) ?_
                refine wq_val (.pointer (some ⟨gd, k * 8, none⟩)) rfl (fun w' h => by simp [go_sem]) ?_
                refine wq_val (.int .i64 (nk : Nat)) rfl (fun w' h => by have hc := (h.cell (p := ⟨gd, k * 8, none⟩) hgz8).trans c80; simp [go_sem, hc]) ?_
                refine wq_val (.pointer (some ⟨gd, 0, none⟩)) rfl (fun w' h => by simp [go_sem]) ?_
                refine wq_val (.int .i64 (k : Nat)) rfl (fun w' h => by simp [go_sem]) ?_
                refine wq_val (.int .i64 (k1 : Nat)) rfl (fun w' h => by simp [go_sem, hk5, hk7]) ?_
                refine wq_val (.pointer (some ⟨gd, 0, none⟩)) rfl (fun w' h => by simp [go_sem]) ?_
                refine wq_val (.pointer (some ⟨gd, 0, none⟩)) rfl (fun w' h => by simp [go_sem]) ?_
                refine wq_val (.pointer (some ⟨gd, k1 * 8, none⟩)) rfl (fun w' h => by simp [go_sem, hk6]; intro h4; omega) ?_
                refine wq_val (.pointer (some ⟨gd, k1 * 8, none⟩)) rfl (fun w' h => by simp [go_sem]) ?_
                refine wq_val (.int .i64 (n1 : Nat)) rfl (fun w' h => by have hc := (h.cell (p := ⟨gd, k1 * 8, none⟩) hgz8).trans c81; simp [go_sem, hc]) ?_
                refine wq_call (.int .i64 (oE nk n1 : Nat)) 15 #[.int .i64 (nk : Nat), .int .i64 (n1 : Nat)] rfl (fun w' => by simp [go_sem]) (fun w' h => (size_yes (nk : Nat) (n1 : Nat) w' (by omega) (by omega) (by omega) (by omega)).mono fun _ _ ⟨g1, g2⟩ => ⟨by rw [g1, size_oE], h.trans (g2.mono h.size)⟩) ?_
                refine wq_val (.int .i64 (nx : Nat)) rfl (fun w' h => by simp [go_sem, hadd, hwnx]) ?_
                refine wpQuiet_nil ?_
                intro wx hbx
                have HBX := Lib.hid hbx
                clear hbx
                go_wp2_with fail
                go_meet
                exact ⟨rfl, HBX.out⟩
            case rest =>
              obtain ⟨rfl, hbx⟩ := hcut
              rename World => w9
              have hr9 := HR8.out.below hbx
              have hb9 := HB8.out.trans (hbx.mono hz8)
              have hz9 := hb9.size
              have HR9 := Lib.hid hr9
              have HB9 := Lib.hid hb9
              have HK9 := Lib.hid (HK8.out.trans (Kept.none_of_below hbx) (fun _ h => h.elim))
              clear HK8 hbx hr9 hb9 c84 c80 HR8 HB8 hgz8
              by_cases h3 : bl < nx
              · have hl := HLE2.out
                rw [if_pos h3] at hl
                have hv := HVE.out (by rw [hl]; simp)
                rw [hl] at hv
                have HV := Lib.hid hv
                have d5 : decide ((bl : Int) < (nx : Int)) = true := decide_eq_true (by omega)
                have d6 : decide (bl < nx) = true := decide_eq_true h3
                clear hl hv
                go_wp2_with (go_at_call 14; (with_reducible refine (twrong_calls _ _ _).mono ?_); rintro e w10 ⟨b9, rfl, hb9, hr9, hbe9⟩; (have HR10 := Lib.hid hr9); (have HBE10 := Lib.hid hbe9); clear hr9 hbe9)
                go_ret2
                rw [HV.out]
                exact ⟨HB9.out.trans (HBE10.out.mono hz9), .inl ⟨by simp, _, rfl, .inr ⟨_, by simp, rfl, HR10.out⟩⟩⟩
              · have hl := HLE2.out
                rw [if_neg h3] at hl
                have hg := HVG.out (by rw [hl])
                have HG := Lib.hid hg
                have d5 : decide ((bl : Int) < (nx : Int)) = false := decide_eq_false (by omega)
                have d6 : decide (bl < nx) = false := decide_eq_false h3
                have hnxl : nx ≤ bl := by omega
                clear hl hg HLE2 h3
                have henx : en ≤ nx := by rw [HEN.out, HNX.out]; exact tX_ge b k
                obtain ⟨f1, hf1⟩ : ∃ f1 : Nat, f1 = ea + 1 := ⟨_, rfl⟩
                have hf1e : f1 ≤ en := by have := HENE.out; omega
                have hf1i : (ea : Int) + 1 = (f1 : Int) := by omega
                have c93 : w9.cell? ⟨gd, k * 8 + 3, none⟩ = some (.int .i64 (f1 : Nat)) := by
                  rw [HR9.out.cell (by omega), setF_other _ _ (by omega), setF_same, hf1i]
                have c94 : w9.cell? ⟨gd, k * 8 + 4, none⟩ = some (.int .i64 (en : Nat)) := by rw [HR9.out.cell (by omega), setF_same]
                have c95 := HR9.out.cell (i := k * 8 + 5) (by omega)
                have c96 := HR9.out.cell (i := k * 8 + 6) (by omega)
                have f95 := HR9.out.frozen (k * 8 + 5)
                have f96 := HR9.out.frozen (k * 8 + 6)
                obtain ⟨A1, hA1⟩ : ∃ A1 : Option Addr, A1 = (if cap = f1 then (some ⟨bb, bo, none⟩ : Option Addr) else some ⟨bb, bo + f1, none⟩) := ⟨_, rfl⟩
                obtain ⟨A2, hA2⟩ : ∃ A2 : Option Addr, A2 = (if cap = en then (some ⟨bb, bo, none⟩ : Option Addr) else some ⟨bb, bo + en, none⟩) := ⟨_, rfl⟩
                have hA1' := hA1.symm
                have hA2' := hA2.symm
                obtain ⟨l1, hl1⟩ : ∃ l1, l1 = en - f1 := ⟨_, rfl⟩
                obtain ⟨l2, hl2⟩ : ∃ l2, l2 = nx - en := ⟨_, rfl⟩
                obtain ⟨c1, hc1⟩ : ∃ c1, c1 = cap - f1 := ⟨_, rfl⟩
                obtain ⟨c2, hc2⟩ : ∃ c2, c2 = cap - en := ⟨_, rfl⟩
                have hl1' := hl1.symm
                have hl2' := hl2.symm
                have hc1' := hc1.symm
                have hc2' := hc2.symm
                have hr10 := fun q => ((HR9.out.drewN q).set (k * 8 + 5) (.slice A1 l1 c1)).set (k * 8 + 6) (.slice A2 l2 c2)
                have hb10 := fun q => ((below_drewN HB9.out q).setCell (p := ⟨gd, k * 8 + 5, none⟩) hwg (.slice A1 l1 c1)).setCell (p := ⟨gd, k * 8 + 6, none⟩) hwg (.slice A2 l2 c2)
                have HR10 := Lib.hid hr10
                have hkp10 := fun q => ((HK9.out.drewN q).setCell (p := ⟨gd, k * 8 + 5, none⟩) (.inl rfl) (.slice A1 l1 c1)).setCell (p := ⟨gd, k * 8 + 6, none⟩) (.inl rfl) (.slice A2 l2 c2)
                have HK10 := Lib.hid hkp10
                have HB10 := Lib.hid hb10
                have HA1 := Lib.hid hA1
                have HA2 := Lib.hid hA2
                have HF1 := Lib.hid hf1
                clear hkp10 hr10 hb10 hA1 hA2 hl1 hl2 hc1 hc2 hf1 hf1i
                go_upto_region 23 with fail
                go_cut [] from 110 to 132 (fun wx => RowC wx gd 32 47 (setF (setF (setF (setF (setF (setF (tvC b (some ⟨bb, bo, none⟩) cap vp k) (k * 8 + 2) (.int .i64 (ea : Nat))) (k * 8 + 1) (.int .i64 (wd : Nat))) (k * 8 + 3) (.int .i64 ((ea : Int) + 1))) (k * 8 + 4) (.int .i64 (en : Nat))) (k * 8 + 5) (.slice A1 l1 c1)) (k * 8 + 6) (.slice A2 l2 c2)) ∧ Below w.heap.size w wx ∧ Kept (fun x => x = gd) wr wx)
                case first =>
-- FIRST
                  have hSV : w9.drew.cell? ⟨gd, k * 8 + 3, none⟩ = some (.int .i64 (f1 : Nat)) ∧ w9.drew.cell? ⟨gd, k * 8 + 4, none⟩ = some (.int .i64 (en : Nat)) := ⟨c93, c94⟩
                  have hVd : w9.drew = w9.drewN 1 := rfl
                  obtain ⟨u5, hV5⟩ : ∃ u, w9.drew.cell? ⟨gd, k * 8 + 5, none⟩ = some u := ⟨_, c95⟩
                  obtain ⟨u6, hV6⟩ : ∃ u, w9.drew.cell? ⟨gd, k * 8 + 6, none⟩ = some u := ⟨_, c96⟩
                  have hW5 : w9.drew.frozen? ⟨gd, k * 8 + 5, none⟩ = false := f95
                  have hW6 : w9.drew.frozen? ⟨gd, k * 8 + 6, none⟩ = false := f96
                  have hencap : en ≤ cap := by omega
                  have hnxcap : nx ≤ cap := by omega
                  refine wh_start (S := fun w' => w'.cell? ⟨gd, k * 8 + 3, none⟩ = some (.int .i64 (f1 : Nat)) ∧ w'.cell? ⟨gd, k * 8 + 4, none⟩ = some (.int .i64 (en : Nat))) 25 rfl (by kernel_rfl) ?_
                  have hr10 := HR10.out 1
                  have hb10 := HB10.out 1
                  have hkp10 := HK10.out 1
                  rw [← hVd] at hr10 hb10 hkp10
                  generalize w9.drew = V at hSV hV5 hV6 hW5 hW6 hr10 hb10 hkp10 ⊢
                  refine wh_take 0 (.pointer (some ⟨gd, k * 8, none⟩)) rfl rfl (by kernel_rfl) (by kernel_rfl) (by kernel_rfl) (fun _ _ _ h => h) hSV (fun w' h => by simp [go_sem]) ?_
                  refine wh_take 1 (.pointer (some ⟨gd, k * 8, none⟩)) rfl rfl (by kernel_rfl) (by kernel_rfl) (by kernel_rfl) (fun _ _ _ h => h) hSV (fun w' h => by simp [go_sem]) ?_
                  refine wh_take 2 (.slice (some ⟨bb, bo, none⟩) bl cap) rfl rfl (by kernel_rfl) (by kernel_rfl) (by kernel_rfl) (fun _ _ _ h => h) hSV (fun w' h => by simp [go_sem]) ?_
                  refine wh_take 3 (.pointer (some ⟨gd, k * 8, none⟩)) rfl rfl (by kernel_rfl) (by kernel_rfl) (by kernel_rfl) (fun _ _ _ h => h) hSV (fun w' h => by simp [go_sem]) ?_
                  refine wh_take 4 (.pointer (some ⟨gd, k * 8, none⟩)) rfl rfl (by kernel_rfl) (by kernel_rfl) (by kernel_rfl) (fun _ _ _ h => h) hSV (fun w' h => by simp [go_sem]) ?_
                  refine wh_take 5 (.pointer (some ⟨gd, k * 8 + 3, none⟩)) rfl rfl (by kernel_rfl) (by kernel_rfl) (by kernel_rfl) (fun _ _ _ h => h) hSV (fun w' h => by simp [go_sem]) ?_
                  refine wh_take 6 (.int .i64 (f1 : Nat)) rfl rfl (by kernel_rfl) (by kernel_rfl) (by kernel_rfl) (fun _ _ _ h => h) hSV (fun w' h => by have hc := h.1; simp [go_sem, hc]) ?_
                  refine wh_take 7 (.pointer (some ⟨gd, k * 8, none⟩)) rfl rfl (by kernel_rfl) (by kernel_rfl) (by kernel_rfl) (fun _ _ _ h => h) hSV (fun w' h => by simp [go_sem]) ?_
                  refine wh_take 8 (.pointer (some ⟨gd, k * 8, none⟩)) rfl rfl (by kernel_rfl) (by kernel_rfl) (by kernel_rfl) (fun _ _ _ h => h) hSV (fun w' h => by simp [go_sem]) ?_
                  refine wh_take 9 (.pointer (some ⟨gd, k * 8 + 4, none⟩)) rfl rfl (by kernel_rfl) (by kernel_rfl) (by kernel_rfl) (fun _ _ _ h => h) hSV (fun w' h => by simp [go_sem]) ?_
                  refine wh_take 10 (.int .i64 (en : Nat)) rfl rfl (by kernel_rfl) (by kernel_rfl) (by kernel_rfl) (fun _ _ _ h => h) hSV (fun w' h => by have hc := h.2; simp [go_sem, hc]) ?_
                  refine wh_take 11 (.slice A1 l1 c1) rfl rfl (by kernel_rfl) (by kernel_rfl) (by kernel_rfl) (fun _ _ _ h => h) hSV (fun w' h => by simp [go_sem, hA1', hl1', hc1', hf1e, hencap]) ?_
                  refine wh_take 12 (.slice (some ⟨bb, bo, none⟩) bl cap) rfl rfl (by kernel_rfl) (by kernel_rfl) (by kernel_rfl) (fun _ _ _ h => h) hSV (fun w' h => by simp [go_sem]) ?_
                  refine wh_take 13 (.pointer (some ⟨gd, k * 8, none⟩)) rfl rfl (by kernel_rfl) (by kernel_rfl) (by kernel_rfl) (fun _ _ _ h => h) hSV (fun w' h => by simp [go_sem]) ?_
                  refine wh_take 14 (.pointer (some ⟨gd, k * 8, none⟩)) rfl rfl (by kernel_rfl) (by kernel_rfl) (by kernel_rfl) (fun _ _ _ h => h) hSV (fun w' h => by simp [go_sem]) ?_
                  refine wh_take 15 (.pointer (some ⟨gd, k * 8 + 4, none⟩)) rfl rfl (by kernel_rfl) (by kernel_rfl) (by kernel_rfl) (fun _ _ _ h => h) hSV (fun w' h => by simp [go_sem]) ?_
                  refine wh_take 16 (.int .i64 (en : Nat)) rfl rfl (by kernel_rfl) (by kernel_rfl) (by kernel_rfl) (fun _ _ _ h => h) hSV (fun w' h => by have hc := h.2; simp [go_sem, hc]) ?_
                  refine wh_take 17 (.int .i64 (nx : Nat)) rfl rfl (by kernel_rfl) (by kernel_rfl) (by kernel_rfl) (fun _ _ _ h => h) hSV (fun w' h => by simp [go_sem]) ?_
                  refine wh_take 18 (.slice A2 l2 c2) rfl rfl (by kernel_rfl) (by kernel_rfl) (by kernel_rfl) (fun _ _ _ h => h) hSV (fun w' h => by simp [go_sem, hA2', hl2', hc2', henx, hnxcap]) ?_
                  refine wh_take 19 (.pointer (some ⟨gd, k * 8, none⟩)) rfl rfl (by kernel_rfl) (by kernel_rfl) (by kernel_rfl) (fun _ _ _ h => h) hSV (fun w' h => by simp [go_sem]) ?_
                  refine wh_take 20 (.pointer (some ⟨gd, k * 8 + 5, none⟩)) rfl rfl (by kernel_rfl) (by kernel_rfl) (by kernel_rfl) (fun _ _ _ h => h) hSV (fun w' h => by simp [go_sem]) ?_
                  have hS1 : (V.setCell ⟨gd, k * 8 + 5, none⟩ (.slice A1 l1 c1)).cell? ⟨gd, k * 8 + 3, none⟩ = some (.int .i64 (f1 : Nat)) ∧ (V.setCell ⟨gd, k * 8 + 5, none⟩ (.slice A1 l1 c1)).cell? ⟨gd, k * 8 + 4, none⟩ = some (.int .i64 (en : Nat)) := by
                    refine ⟨?_, ?_⟩
                    · rw [World.cell?_setCell_other _ _ _ _ (by simp)]; exact hSV.1
                    · rw [World.cell?_setCell_other _ _ _ _ (by simp)]; exact hSV.2
                  have hS2 : ((V.setCell ⟨gd, k * 8 + 5, none⟩ (.slice A1 l1 c1)).setCell ⟨gd, k * 8 + 6, none⟩ (.slice A2 l2 c2)).cell? ⟨gd, k * 8 + 3, none⟩ = some (.int .i64 (f1 : Nat)) ∧ ((V.setCell ⟨gd, k * 8 + 5, none⟩ (.slice A1 l1 c1)).setCell ⟨gd, k * 8 + 6, none⟩ (.slice A2 l2 c2)).cell? ⟨gd, k * 8 + 4, none⟩ = some (.int .i64 (en : Nat)) := by
                    refine ⟨?_, ?_⟩
                    · rw [World.cell?_setCell_other _ _ _ _ (by simp)]; exact hS1.1
                    · rw [World.cell?_setCell_other _ _ _ _ (by simp)]; exact hS1.2
                  have hV61 : (V.setCell ⟨gd, k * 8 + 5, none⟩ (.slice A1 l1 c1)).cell? ⟨gd, k * 8 + 6, none⟩ = some u6 := by rw [World.cell?_setCell_other _ _ _ _ (by simp)]; exact hV6
                  have hW61 : (V.setCell ⟨gd, k * 8 + 5, none⟩ (.slice A1 l1 c1)).frozen? ⟨gd, k * 8 + 6, none⟩ = false := by rw [World.frozen?_setCell]; exact hW6
                  refine wh_skip 21 (w' := V.setCell ⟨gd, k * 8 + 5, none⟩ (.slice A1 l1 c1)) rfl rfl (by kernel_rfl) (by simp [go_sem, hV5, hW5]) hS1 ?_
                  refine wh_step 22 (.pointer (some ⟨gd, k * 8, none⟩)) (w' := V.setCell ⟨gd, k * 8 + 5, none⟩ (.slice A1 l1 c1)) rfl rfl (by kernel_rfl) (by simp [go_sem]) hS1 ?_
                  refine wh_step 23 (.pointer (some ⟨gd, k * 8 + 6, none⟩)) (w' := V.setCell ⟨gd, k * 8 + 5, none⟩ (.slice A1 l1 c1)) rfl rfl (by kernel_rfl) (by simp [go_sem]) hS1 ?_
                  refine wh_skip 24 (w' := (V.setCell ⟨gd, k * 8 + 5, none⟩ (.slice A1 l1 c1)).setCell ⟨gd, k * 8 + 6, none⟩ (.slice A2 l2 c2)) rfl rfl (by kernel_rfl) (by simp [go_sem, hV61, hW61]) hS2 ?_
                  refine wpAnyH_done (by kernel_rfl) ?_ 0
                  clear hS1 hS2 hSV hV5 hV6 hW5 hW6 hV61 hW61 c93 c94 c95 c96 f95 f96 HR10 HB10
                  generalize (V.setCell ⟨gd, k * 8 + 5, none⟩ (.slice A1 l1 c1)).setCell ⟨gd, k * 8 + 6, none⟩ (.slice A2 l2 c2) = w11 at hr10 hb10 hkp10 ⊢
                  have HK11 := Lib.hid hkp10
                  have HR11 := Lib.hid hr10
                  have HB11 := Lib.hid hb10
                  clear hr10 hb10 hkp10
                  go_wp2_with fail
                  go_meet
                  exact ⟨HR11.out, HB11.out, HK11.out⟩
-- REST
                case rest =>
                  obtain ⟨hr11, hb11, hk11⟩ := hcut
                  rename World => w11
                  have hz11 := hb11.size
                  have HR11 := Lib.hid hr11
                  have HB11 := Lib.hid hb11
                  have HK11 := Lib.hid hk11
                  -- the level is done, but for its vector
                  have hrows : ∀ (X : World) (p : Option Addr) (C : Nat → Value), RowC X gd 32 47 C → (∀ i, i < 32 → C i = if i = k * 8 + 7 then .pointer p else (setF (setF (setF (setF (setF (setF (tvC b (some ⟨bb, bo, none⟩) cap vp k) (k * 8 + 2) (.int .i64 (ea : Nat))) (k * 8 + 1) (.int .i64 (wd : Nat))) (k * 8 + 3) (.int .i64 ((ea : Int) + 1))) (k * 8 + 4) (.int .i64 (en : Nat))) (k * 8 + 5) (.slice A1 l1 c1)) (k * 8 + 6) (.slice A2 l2 c2)) i) →
                      RowC X gd 32 47 (tvC b (some ⟨bb, bo, none⟩) cap (fun j => if j = k then p else vp j) (k + 1)) := by
                    intro X p C h hC
                    refine RowC.to h (lv_done b (some ⟨bb, bo, none⟩) cap vp k hk4 p C fun i hi => ?_)
                    rw [hC i hi]
                    have e1 : (.slice A1 l1 c1 : Value) = .slice (slA (some ⟨bb, bo, none⟩) cap (tA b k + 1)) (tE b k - (tA b k + 1)) (cap - (tA b k + 1)) := by
                      rw [← HEA.out, ← HEN.out, ← HF1.out, hl1', hc1', HA1.out]; unfold slA; simp [Addr.add_lit]
                    have e2 : (.slice A2 l2 c2 : Value) = .slice (slA (some ⟨bb, bo, none⟩) cap (tE b k)) (tA b (k + 1) - tE b k) (cap - tE b k) := by
                      rw [← HEN.out, ← HNX.out, hl2', hc2', HA2.out]; unfold slA; simp [Addr.add_lit]
                    have e3 : (.int .i64 ((ea : Int) + 1) : Value) = .int .i64 (tA b k + 1 : Nat) := by rw [HEA.out]; rfl
                    rw [e1, e2, e3, ← HEA.out, ← HWD.out, ← HEN.out]
                  have hvecs : ∀ (X : World) (p : Option Addr), Below w11.heap.size w11 X → VecK X b (some ⟨bb, bo, none⟩) cap p k → ∀ j, j < k + 1 → VecK X b (some ⟨bb, bo, none⟩) cap ((fun j => if j = k then p else vp j) j) j := by
                    intro X p hX hp j hj
                    by_cases hjk : j = k
                    · subst hjk; simp only [if_pos rfl]; exact hp
                    · simp only [if_neg hjk]
                      exact ((HVEC.out j (by omega)).stay HROW.out HK11.out HGA.out).below hX
                  have HROWS := Lib.hid hrows
                  have HVECS := Lib.hid hvecs
                  have c116 : w11.cell? ⟨gd, k * 8 + 6, none⟩ = some (.slice A2 l2 c2) := by rw [hr11.cell (by omega), setF_same]
                  clear hr11 hb11 hk11 hrows hvecs
                  by_cases hk0 : k = 0
                  · have dk : decide (0 < k) = false := decide_eq_false (by omega)
                    have dz : ¬ 0 < k := by omega
                    have htv : tV b k = false := by unfold tV; rw [dk]; rfl
                    have hfin1 := HROWS.out w11 none _ HR11.out (fun i hi => by
                      by_cases e : i = k * 8 + 7
                      · rw [if_pos e, e, setF_other _ _ (by omega), setF_other _ _ (by omega), setF_other _ _ (by omega), setF_other _ _ (by omega), setF_other _ _ (by omega), setF_other _ _ (by omega)]
                        unfold tvC
                        rw [if_neg (by omega)]
                        unfold tcN tz
                        rw [if_neg (by omega), if_neg (by omega), if_neg (by omega)]
                      · rw [if_neg e])
                    have hfin2 := HVECS.out w11 none (Below.refl _ _) ⟨(fun e => by rw [htv] at e; cases e), fun _ => rfl⟩
                    have F1 := Lib.hid hfin1
                    have F2 := Lib.hid hfin2
                    clear hfin1 hfin2 htv hk0 c116
                    go_wp2_with fail
                    exact ⟨⟨k + 1, _, by go_num, by rw [HNX.out], by omega, HG.out, F1.out, F2.out, HB11.out⟩, by simp [intOf]; omega⟩
                  · have dk : decide (0 < k) = true := decide_eq_true (by omega)
                    have hk1 : 0 < k := by omega
                    clear hk0
                    have hnone : ∀ X, Below w11.heap.size w11 X → RowC X gd 32 47 (tvC b (some ⟨bb, bo, none⟩) cap (fun j => if j = k then none else vp j) (k + 1)) := fun X hX => HROWS.out X none _ (HR11.out.below hX) (fun i hi => by
                      by_cases e : i = k * 8 + 7
                      · rw [if_pos e, e, setF_other _ _ (by omega), setF_other _ _ (by omega), setF_other _ _ (by omega), setF_other _ _ (by omega), setF_other _ _ (by omega), setF_other _ _ (by omega)]
                        unfold tvC
                        rw [if_neg (by omega)]
                        unfold tcN tz
                        rw [if_neg (by omega), if_neg (by omega), if_neg (by omega)]
                      · rw [if_neg e])
                    have HNONE := Lib.hid hnone
                    have hs11 := (HS.out.keep HB11.out).cut en l2 (by rw [← HBL.out]; omega)
                    have hA2s : (if cap = en then (some ⟨bb, bo, none⟩ : Option Addr) else Option.map (fun (x : Addr) => x.add en) (some (⟨bb, bo, none⟩ : Addr))) = A2 := by rw [HA2.out]; simp [Addr.add_lit]
                    rw [hA2s, hc2', show en + l2 - en = l2 by omega] at hs11
                    obtain ⟨bs, hbs⟩ : ∃ bs, bs = tB b k := ⟨_, rfl⟩
                    have hbsl : bs.length = l2 := by
                      rw [hbs]; unfold tB
                      rw [List.length_take, List.length_drop, ← HEN.out, ← HNX.out, ← HBL.out]; omega
                    have hbsn : ((nums b).drop en).take l2 = nums bs := by
                      rw [hbs]; unfold tB
                      rw [← HEN.out, ← HNX.out, hl2']; simp [nums, List.map_drop, List.map_take]
                    rw [hbsn] at hs11
                    have HS11 := Lib.hid hs11
                    have HBSL := Lib.hid hbsl
                    obtain ⟨k1, hk1e⟩ : ∃ k1 : Nat, k1 = k - 1 := ⟨_, rfl⟩
                    have hk5 : (k : Int) - 1 = (k1 : Int) := by omega
                    have hk6 : k1 < 4 := by omega
                    have hk7 : IntKind.i64.wrap (k1 : Int) = (k1 : Int) := by rw [IntKind.wrap_i64]; omega
                    obtain ⟨n1, hn1⟩ : ∃ n1, n1 = tN b k1 := ⟨_, rfl⟩
                    have hcX : ∀ X, Below w11.heap.size w11 X → X.cell? ⟨gd, k1 * 8, none⟩ = some (.int .i64 (n1 : Nat)) ∧ X.cell? ⟨gd, k * 8, none⟩ = some (.int .i64 (nk : Nat)) := fun X hX => by
                      have hr := HR11.out.below hX
                      constructor
                      · rw [RowC.cell hr (by omega), setF_other _ _ (by omega), setF_other _ _ (by omega), setF_other _ _ (by omega), setF_other _ _ (by omega), setF_other _ _ (by omega), setF_other _ _ (by omega)]
                        unfold tvC
                        rw [if_pos (by omega), show k1 * 8 / 8 = k1 by omega, show k1 * 8 % 8 = 0 by omega]
                        show some (Value.int .i64 (tN b k1 : Nat)) = _
                        rw [← hn1]
                      · rw [RowC.cell hr (by omega), setF_other _ _ (by omega), setF_other _ _ (by omega), setF_other _ _ (by omega), setF_other _ _ (by omega), setF_other _ _ (by omega), setF_other _ _ (by omega)]
                        unfold tvC
                        rw [if_neg (by omega), tcN_at b hk4, ← HNK.out]
                    have htv : tV b k = (decide ((fV bs).2 = 0) && decide (f4 bs 0 = nk) && decide (f4 bs 4 = n1)) := by
                      unfold tV; rw [decide_eq_true hk1, Bool.true_and, ← hbs, ← HNK.out, ← hk1e, ← hn1]
                    have HTVE := Lib.hid htv
                    have HCX := Lib.hid hcX
                    have HN1 := Lib.hid hn1
                    have HBS := Lib.hid hbs
                    have HK1 := Lib.hid hk1e
                    clear hnone hs11 hA2s hbsl hbsn hbs hk1e hn1 hcX htv
                    obtain ⟨yv, hyv⟩ : ∃ yv, yv = (fV bs).2 := ⟨_, rfl⟩
                    by_cases hfv : yv = 0
                    · have hfv0 : (fV bs).2 = 0 := by rw [← hyv]; exact hfv
                      have HFV := Lib.hid hfv0
                      obtain ⟨nN, hnN⟩ : ∃ nN, nN = f4 bs 0 := ⟨_, rfl⟩
                      obtain ⟨nM, hnM⟩ : ∃ nM, nM = f4 bs 4 := ⟨_, rfl⟩
                      have htv : tV b k = (decide (nN = nk) && decide (nM = n1)) := by rw [HTVE.out, hfv0, ← hnN, ← hnM]; rfl
                      have HTV2 := Lib.hid htv
                      have HNN := Lib.hid hnN
                      have HNM := Lib.hid hnM
                      have hvy := fun X A l c hl hs => vw_yes X A l c bs hl hs hfv0
                      rw [← hnN, ← hnM] at hvy
                      have HVY := Lib.hid hvy
                      clear hfv0 hnN hnM htv hvy hyv hfv
                      go_upto_region 26 with (go_at_call 16; (with_reducible refine (HVY.out w11 A2 l2 c2 HBSL.out HS11.out).mono ?_); rintro e w12 ⟨gv, rfl, hb12, hv12⟩; (have HB12 := Lib.hid hb12); (have HV12 := Lib.hid hv12); clear hb12 hv12)
                      have hlen12 : ∀ q, Calls Tryd.prog 17 #[.pointer (some ⟨gv, 0, none⟩)] (w12.drewN q) fun e w' => e = .returned (.int .i64 (nN : Nat)) ∧ w' = w12.drewN q := fun q => (tvlen_calls (HV12.out.drewN q)).mono fun _ _ ⟨g1, g2⟩ => ⟨g1, g2.symm⟩
                      have hone12 : ∀ q, Calls Tryd.prog 18 #[.pointer (some ⟨gv, 0, none⟩)] (w12.drewN q) fun e w' => e = .returned (.int .i64 (nM : Nat)) ∧ w' = w12.drewN q := fun q => (ones_calls (HV12.out.drewN q)).mono fun _ _ ⟨g1, g2⟩ => ⟨g1, g2.symm⟩
                      have HLEN := Lib.hid hlen12
                      have HONE := Lib.hid hone12
                      clear hlen12 hone12
                      have cA := (HCX.out w12 HB12.out).1
                      have cB := (HCX.out w12 HB12.out).2
                      by_cases hA : nN = nk
                      · have dA : decide (nN = nk) = true := decide_eq_true hA
                        by_cases hM : nM = n1
                        · have dM : decide (nM = n1) = true := decide_eq_true hM
                          have htv : tV b k = true := by rw [HTV2.out, dA, dM]; rfl
                          have HTV := Lib.hid htv
                          have hAe := Lib.hid hA
                          have hMe := Lib.hid hM
                          subst hA
                          subst hM
                          clear htv
                          go_quiet ((first
                          | (go_at_call 17; with_reducible exact Calls.quiet_of_same (HLEN.out _))
                          | (go_at_call 18; with_reducible exact Calls.quiet_of_same (HONE.out _))))
                          have hrw := HR11.out.below HB12.out
                          have c7 := RowC.cell (RowC.drewN hrw nq) (i := k * 8 + 7) (by omega)
                          have f7 := RowC.frozen (RowC.drewN hrw nq) (k * 8 + 7)
                          have hset := RowC.set (RowC.drewN hrw nq) (k * 8 + 7) (.pointer (some ⟨gv, 0, none⟩))
                          have hkp : Kept (fun x => x = gd) w12 ((w12.drewN nq).setCell ⟨gd, k * 8 + 7, none⟩ (.pointer (some ⟨gv, 0, none⟩))) := ((Kept.refl (fun x => x = gd) w12).drewN nq).setCell (p := ⟨gd, k * 8 + 7, none⟩) (.inl rfl) _
                          have hfin3 : Below w.heap.size w ((w12.drewN nq).setCell ⟨gd, k * 8 + 7, none⟩ (.pointer (some ⟨gv, 0, none⟩))) := (below_drewN (HB11.out.trans (HB12.out.mono hz11)) nq).setCell (p := ⟨gd, k * 8 + 7, none⟩) hwg _
                          have hvk12 : VecK w12 b (some ⟨bb, bo, none⟩) cap (some ⟨gv, 0, none⟩) k := ⟨fun _ => ⟨gv, rfl, by
                            have h1 := HV12.out
                            rw [HBS.out] at h1
                            have e1 : A2 = slA (some ⟨bb, bo, none⟩) cap (tE b k) := by rw [← HEN.out, HA2.out]; unfold slA; simp [Addr.add_lit]
                            have e2 : c2 = cap - tE b k := by rw [← HEN.out, hc2']
                            rw [e1, e2] at h1
                            rw [← HNK.out, ← HK1.out, ← HN1.out]
                            exact h1⟩, (fun e => by rw [HTV.out] at e; cases e)⟩
                          have hF1 := HROWS.out _ (some ⟨gv, 0, none⟩) _ hset (fun i hi => by
                            by_cases e : i = k * 8 + 7
                            · rw [if_pos e, e, setF_same]
                            · rw [if_neg e, setF_other _ _ e])
                          have hF2 := fun j hj => (HVECS.out w12 (some ⟨gv, 0, none⟩) HB12.out hvk12 j hj).stay hrw hkp HGA.out
                          have F1 := Lib.hid hF1
                          have F2 := Lib.hid hF2
                          have F3 := Lib.hid hfin3
                          clear hF1 hF2 hfin3 hset hkp hvk12 hrw
                          go_wp2_with fail
                          exact ⟨⟨k + 1, _, by go_num, by rw [HNX.out], by omega, HG.out, F1.out, F2.out, F3.out⟩, by simp [intOf]; omega⟩
                        · have dM : decide (nM = n1) = false := decide_eq_false hM
                          have dM2 : ((nM : Int) == (n1 : Int)) = false := by simp; omega
                          have dM3 : (nM == n1) = false := by simp; exact hM
                          have htv : tV b k = false := by rw [HTV2.out, dA, dM]; rfl
                          have HTV := Lib.hid htv
                          subst hA
                          clear htv hM
                          go_quiet ((first
                          | (go_at_call 17; with_reducible exact Calls.quiet_of_same (HLEN.out _))
                          | (go_at_call 18; with_reducible exact Calls.quiet_of_same (HONE.out _))))
                          have F1 := Lib.hid (HNONE.out _ (below_drewN HB12.out nq))
                          have F2 := Lib.hid (HVECS.out _ none (below_drewN HB12.out nq) ⟨(fun e => by rw [HTV.out] at e; cases e), fun _ => rfl⟩)
                          have F3 := Lib.hid (below_drewN (HB11.out.trans (HB12.out.mono hz11)) nq)
                          go_wp2_with fail
                          exact ⟨⟨k + 1, _, by go_num, by rw [HNX.out], by omega, HG.out, F1.out, F2.out, F3.out⟩, by simp [intOf]; omega⟩
                      · have dA : decide (nN = nk) = false := decide_eq_false hA
                        have dA2 : ((nN : Int) == (nk : Int)) = false := by simp; omega
                        have dA3 : (nN == nk) = false := by simp; exact hA
                        have htv : tV b k = false := by rw [HTV2.out, dA]; rfl
                        have HTV := Lib.hid htv
                        clear htv hA
                        go_quiet ((first
                          | (go_at_call 17; with_reducible exact Calls.quiet_of_same (HLEN.out _))
                          | (go_at_call 18; with_reducible exact Calls.quiet_of_same (HONE.out _))))
                        have F1 := Lib.hid (HNONE.out _ (below_drewN HB12.out nq))
                        have F2 := Lib.hid (HVECS.out _ none (below_drewN HB12.out nq) ⟨(fun e => by rw [HTV.out] at e; cases e), fun _ => rfl⟩)
                        have F3 := Lib.hid (below_drewN (HB11.out.trans (HB12.out.mono hz11)) nq)
                        go_wp2_with fail
                        exact ⟨⟨k + 1, _, by go_num, by rw [HNX.out], by omega, HG.out, F1.out, F2.out, F3.out⟩, by simp [intOf]; omega⟩
                    · have hfv0 : (fV bs).2 ≠ 0 := by rw [← hyv]; exact hfv
                      have htv : tV b k = false := by rw [HTVE.out, decide_eq_false hfv0]; rfl
                      have HTV := Lib.hid htv
                      have hvn := fun X A l c hl hs => vw_no X A l c bs hl hs hfv0
                      have HVN := Lib.hid hvn
                      clear hfv0 htv hvn hyv hfv
                      go_upto_region 26 with (go_at_call 16; (with_reducible refine (HVN.out w11 A2 l2 c2 HBSL.out HS11.out).mono ?_); rintro e w12 ⟨i12, rfl, hb12⟩; (have HB12 := Lib.hid hb12); clear hb12)
                      go_quiet (fail)
                      have F1 := Lib.hid (HNONE.out _ (below_drewN HB12.out nq))
                      have F2 := Lib.hid (HVECS.out _ none (below_drewN HB12.out nq) ⟨(fun e => by rw [HTV.out] at e; cases e), fun _ => rfl⟩)
                      have F3 := Lib.hid (below_drewN (HB11.out.trans (HB12.out.mono hz11)) nq)
                      go_wp2_with fail
                      exact ⟨⟨k + 1, _, by go_num, by rw [HNX.out], by omega, HG.out, F1.out, F2.out, F3.out⟩, by simp [intOf]; omega⟩
      · have hk44 : k = 4 := by omega
        have hlv := HLV.out
        have hrow := HROW.out
        have hvec := HVEC.out
        rw [hk44] at hlv hrow hvec
        rw [hk44]
        have hlok := lv_ok hlv
        have hle4 : tA b 4 ≤ b.length := (hlok.2.2 3 (by omega)).en
        have hvw : vwE b = if tA b 4 < b.length then (13, tA b 4) else (0, 0) := by unfold vwE; rw [if_neg (by rw [hlv]; simp)]
        obtain ⟨ea, hea⟩ : ∃ ea, ea = tA b 4 := ⟨_, rfl⟩
        rw [← hea] at hvw hle4 ⊢
        obtain ⟨bl, hbl⟩ : ∃ bl, bl = b.length := ⟨_, rfl⟩
        rw [← hbl] at hvw hle4 hlen hcl ⊢
        have HVW := Lib.hid hvw
        have HFIN := Lib.hid (And.intro hrow (And.intro hvec HSR.out))
        clear hk44 hlv hrow hvec hlok hvw hea hbl
        by_cases hlt : ea < bl
        · have dl : decide (ea < bl) = true := decide_eq_true hlt
          have dl2 : decide ((ea : Int) < (bl : Int)) = true := decide_eq_true (by omega)
          have hv := HVW.out
          rw [if_pos hlt] at hv
          have HV := Lib.hid hv
          clear hv
          go_wp2_with (go_at_call 14; (with_reducible refine (twrong_calls _ _ _).mono ?_); rintro e w9 ⟨b9, rfl, hb9, hr9, hbe9⟩; (have HR9 := Lib.hid hr9); (have HBE9 := Lib.hid hbe9); clear hr9 hbe9)
          go_ret2
          rw [HV.out]
          exact ⟨HBW.out.trans (HBE9.out.mono hzr), .inl ⟨by simp, _, rfl, .inr ⟨_, by simp, rfl, HR9.out⟩⟩⟩
        · have dl : decide (ea < bl) = false := decide_eq_false hlt
          have dl2 : decide ((ea : Int) < (bl : Int)) = false := decide_eq_false (by omega)
          have hv := HVW.out
          rw [if_neg hlt] at hv
          have HV := Lib.hid hv
          clear hv
          go_wp2_with fail
          go_ret2
          have HV' := HV.out
          rw [HV.out]
          exact ⟨HBW.out, .inr ⟨rfl, gd, vp, hwg, rfl, HFIN.out.1, HFIN.out.2.2, HN.out, HFIN.out.2.1, HV'⟩⟩
end Go.Proofs.YtgajpekolamjbaaDoor
