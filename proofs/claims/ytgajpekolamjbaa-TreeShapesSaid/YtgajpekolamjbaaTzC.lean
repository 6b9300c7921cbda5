/- What a viewed tree of any bytes answers lies within its bounds: plain, and risen. -/
import Derived.Test.YtgajpekolamjbaaTxC
import Derived.Test.YtgajpekolamjbaaTpG
import Derived.Test.YtgajpekolamjbaaTpW
set_option linter.unusedVariables false
set_option linter.unusedSimpArgs false
namespace Go.Proofs.Ytgajpekolamjbaa
open Go Go.RowKit Go.Tk
/-- Numbers that rise from lo on, below n. -/
def RisT (n lo : Nat) (R : List (Nat × (Nat → Nat))) : Prop := ∀ j (h : j < R.length), lo ≤ R[j].1 ∧ R[j].1 < n ∧ ∀ h2 : j + 1 < R.length, R[j].1 < R[j + 1].1
theorem RisT.of {n lo : Nat} {R : List (Nat × (Nat → Nat))} (h1 : R.Pairwise (fun x y => x.1 < y.1)) (h2 : ∀ x ∈ R, lo ≤ x.1 ∧ x.1 < n) : RisT n lo R := fun j h =>
  ⟨(h2 _ (List.getElem_mem h)).1, (h2 _ (List.getElem_mem h)).2, fun hh => List.pairwise_iff_getElem.1 h1 j (j + 1) h hh (by omega)⟩
theorem RisT.take {n lo : Nat} {R : List (Nat × (Nat → Nat))} (h : RisT n lo R) (m : Nat) : RisT n lo (R.take m) := fun j hj => by
  have hj2 : j < R.length := by rw [List.length_take] at hj; omega
  obtain ⟨g1, g2, g3⟩ := h j hj2
  refine ⟨by rw [List.getElem_take]; exact g1, by rw [List.getElem_take]; exact g2, fun hh => ?_⟩
  rw [List.getElem_take, List.getElem_take]
  exact g3 (by rw [List.length_take] at hh; omega)
theorem eh_rise (b : List UInt8) : ∀ f i, (ehT b f i).Pairwise (fun x y => x.1 < y.1) ∧ ∀ x ∈ ehT b f i, i ≤ x.1 ∧ x.1 < i + f
  | 0, i => ⟨List.Pairwise.nil, fun x hx => by cases hx⟩
  | f + 1, i => by
    obtain ⟨h1, h2⟩ := eh_rise b f (i + 1)
    simp only [ehT]
    cases getT b (i : Nat) with
    | none => exact ⟨h1, fun x hx => by have := h2 x hx; omega⟩
    | some q =>
      refine ⟨List.pairwise_cons.2 ⟨fun y hy => by have := h2 y hy; show i < y.1; omega, h1⟩, fun x hx => ?_⟩
      rcases List.mem_cons.1 hx with rfl | hx
      · exact ⟨Nat.le_refl _, by show i < _; omega⟩
      · have := h2 x hx; omega
theorem each_rise (b : List UInt8) (k : Int) : RisT (tN b 3) k.toNat (eachT b k) := by
  obtain ⟨h1, h2⟩ := eh_rise b (tN b 3 - k.toNat) k.toNat
  exact RisT.of h1 (fun x hx => by have := h2 x hx; omega)
theorem match_rise (b : List UInt8) (p : Qd) : RisT (tN b 3) 0 (matchT b p) := by
  have w := match_any (b := b) (p := p)
  exact RisT.of w.sorted (fun x hx => ⟨Nat.zero_le _, (w.mem x hx).2.2⟩)
/-- The quad of a pair. -/
def sqQ (x : Nat × (Nat → Nat)) : Qd := ⟨(x.2 0 : Nat), (x.2 1 : Nat), (x.2 2 : Nat), (x.2 3 : Nat)⟩
theorem match_ag (b : List UInt8) (p : Qd) : ∀ x ∈ matchT b p, agK p (sqQ x) 4 = true := by
  intro x hx
  have w := match_any (b := b) (p := p)
  have h := w.ag (fun j hj => by omega) x hx
  rw [agK_iff]
  intro i hi
  have hq : (sqQ x).at i = ((x.2 i : Nat) : Int) := by
    rcases (by omega : i = 0 ∨ i = 1 ∨ i = 2 ∨ i = 3) with rfl | rfl | rfl | rfl <;> rfl
  unfold agN
  rw [hq]
  by_cases h0 : 0 ≤ p.at i
  · rw [h i hi h0]; simp
  · rw [decide_eq_false h0]; rfl
theorem fd_le (b : List UInt8) (q : Qd) : ∀ f lo hi, (fdS b q f lo hi).1 ≤ tN b 3
  | 0, _, _ => Nat.zero_le _
  | f + 1, lo, hi => by
    simp only [fdS]
    split
    · exact stR_le b _ _
    · rename_i h
      split
      · rename_i h0
        subst h0
        simp only [Nat.sub_zero] at h ⊢
        simp only [not_or] at h
        omega
      · exact fd_le b q f _ _
theorem find_le (b : List UInt8) (q : Qd) : (findT b q).1 ≤ tN b 3 := fd_le b q 4 0 _
theorem ct_le (b : List UInt8) (p : Qd) : ∀ f j lo hi, ctS b p f j lo hi ≤ tN b 3
  | 0, _, _, _ => Nat.le_refl _
  | f + 1, j, lo, hi => by
    simp only [ctS]
    split
    · exact match_len b p
    split
    · exact Nat.zero_le _
    rename_i h
    split
    · rename_i h0
      subst h0
      simp only [not_or] at h
      omega
    split
    · have := stR_le b (3 - j) (srT b j (min lo (min hi (tN b j))) (min hi (tN b j)) (p.at j) + 1); omega
    · exact ct_le b p f _ _ _
theorem count_le (b : List UInt8) (q : Qd) : countT b q ≤ tN b 3 := ct_le b q _ _ _ _
/-- Get of any bytes. -/
theorem get_wild {W : World} {gd : Nat} {b : List UInt8} {a : Option Addr} {cap : Nat} {vp : Nat → Option Addr} (hT : TreeM W gd b a cap vp) (k : Int) (hk : -9223372036854775808 ≤ k ∧ k ≤ 9223372036854775807) :
    ∃ (x0 x1 x2 x3 : Int) (ok : Bool), ((ok = true ∧ 0 ≤ k ∧ k < (tN b 3 : Nat)) ∨ (ok = false ∧ x0 = 0 ∧ x1 = 0 ∧ x2 = 0 ∧ x3 = 0)) ∧
      ∀ X, Below W.heap.size W X → Calls Try.prog 23 #[.pointer (some ⟨gd, 0, none⟩), .int .i64 k] X fun e w' => e = .returned (.tuple #[.agg #[.int .i64 x0, .int .i64 x1, .int .i64 x2, .int .i64 x3], .bool ok]) ∧ Below X.heap.size X w' := by
  cases hg : getT b k with
  | none =>
    refine ⟨0, 0, 0, 0, false, .inr ⟨rfl, rfl, rfl, rfl, rfl⟩, fun X hX => ?_⟩
    have h := tget_calls X gd b a cap vp (hT.below hX) k hk
    rw [hg] at h
    exact h.mono fun e w' ⟨h1, h2⟩ => ⟨h2, h1⟩
  | some q =>
    refine ⟨(q 0 : Nat), (q 1 : Nat), (q 2 : Nat), (q 3 : Nat), true, .inl ⟨rfl, ?_⟩, fun X hX => ?_⟩
    · unfold getT at hg
      split at hg
      · cases hg
      · omega
    · have h := tget_calls X gd b a cap vp (hT.below hX) k hk
      rw [hg] at h
      exact h.mono fun e w' ⟨h1, h2⟩ => ⟨h2, h1⟩
/-- A row of what was seen: a number and a quad each. -/
def SnAt (w : World) (ga : Option Addr) (R : List (Nat × (Nat → Nat))) : Prop := ∀ j (hj : j < R.length), ∃ g, ga = some ⟨g, 0, none⟩ ∧ w.cell? ⟨g, j * 5, none⟩ = some (.int .i64 (R[j].1 : Nat)) ∧ w.rangeAt g (j * 5 + 1) (qcs (sqQ R[j]))
theorem SnAt.of {w : World} {n₀ : Nat} {v : Value} {R : List (Nat × (Nat → Nat))} (h : w.ownsRow n₀ 69 5 v R.length (sqCs R)) : ∃ ga gc, v = .slice ga R.length gc ∧ R.length ≤ gc ∧ SnAt w ga R := by
  obtain ⟨ga, gc, rfl⟩ := ownsRow_slice h
  have hle : R.length ≤ gc := by
    rcases h.2 with ⟨hv, h0⟩ | ⟨g, cap, cur, hv, h1, h2, h3⟩
    · omega
    · simp at hv
      obtain ⟨rfl, rfl⟩ := hv
      exact h3.1
  refine ⟨ga, gc, rfl, hle, fun j hj => ?_⟩
  rcases h.2 with ⟨hv, h0⟩ | ⟨g, cap, cur, hv, h1, h2, h3⟩
  · omega
  · simp at hv
    obtain ⟨rfl, rfl⟩ := hv
    have x1 := World.ownsRow.cells h (g := g) rfl
    refine ⟨g, rfl, ?_, fun i v hv => ?_⟩
    · have := x1 (j * 5 + 0) _ (sqCs_at R j hj 0 (by omega)); rw [Addr.add_lit, Nat.zero_add] at this; exact this
    · have hi : i < 4 := by have := (List.getElem?_eq_some_iff.1 hv).1; simpa [qcs] using this
      have hs := sqCs_at R j hj (i + 1) (by omega)
      have e : (sqC R[j])[i + 1]? = some v := hv
      rw [e] at hs
      have := x1 (j * 5 + (i + 1)) _ hs
      rw [Addr.add_lit, Nat.zero_add] at this
      rw [show j * 5 + 1 + i = j * 5 + (i + 1) by omega]
      exact this
theorem SnAt.keep {w w' : World} {ga : Option Addr} {R : List (Nat × (Nat → Nat))} (h : SnAt w ga R) (hb : Below w.heap.size w w') : SnAt w' ga R := fun j hj => by
  obtain ⟨g, h1, h2, h3⟩ := h j hj
  exact ⟨g, h1, (hb.cell (p := ⟨g, j * 5, none⟩) (block_lt_of_cell h2)).trans h2, range_keep h3 hb⟩
set_option maxRecDepth 100000 in
set_option maxHeartbeats 2000000 in
theorem trisen_calls (w : World) (ga : Option Addr) (gc : Nat) (R : List (Nat × (Nat → Nat))) (lo N : Nat) (hc : SnAt w ga R) (hgc : R.length ≤ gc) (hR : RisT N lo R) (hl : R.length ≤ 4194304) (hN : N ≤ 1048576) (lz : Int) (hlo : R.length = 0 ∨ lz = (lo : Nat)) :
    Calls Try.prog 33 #[.slice ga R.length gc, .int .i64 lz, .int .i64 (N : Nat)] w fun e w' => e = .returned (.bool true) ∧ ∃ m, w' = w.drewN m := by
  obtain ⟨n, hn⟩ : ∃ n, n = R.length := ⟨_, rfl⟩
  have HC := Lib.hid hc
  have HR := Lib.hid hR
  have HN := Lib.hid hn
  have HLO := Lib.hid hlo
  rw [← hn] at hl hgc ⊢
  clear hc hR hn hlo
  go_enter Try.func33, Try.ntmps33
  go_wp2
  go_loopw [7] (fun iv wr => ∃ i m : Nat, iv = .int .i64 (i : Nat) ∧ i ≤ n ∧ wr = w.drewN m) (fun iv _ => n - (intOf iv).toNat)
  case atStart => exact ⟨0, 0, rfl, Nat.zero_le _, rfl⟩
  case round =>
    obtain ⟨i, m, rfl, hi, rfl⟩ := hrel
    by_cases hin : i < n
    · have hiR : i < R.length := by have := HN.out; omega
      obtain ⟨g, rfl, hck, _⟩ := HC.out i hiR
      obtain ⟨r1, r2, _⟩ := HR.out i hiR
      have hlz : lz ≤ (R[i].1 : Int) := by rcases HLO.out with h | h <;> omega
      have hpr : 0 < i → ∃ y : Nat, w.cell? ⟨g, (i - 1) * 5, none⟩ = some (.int .i64 (y : Nat)) ∧ y < R[i].1 := fun h0 => by
        obtain ⟨g', he, hc', _⟩ := HC.out (i - 1) (by omega)
        cases he
        have := (HR.out (i - 1) (by omega)).2.2 (by omega)
        simp only [show i - 1 + 1 = i by omega] at this
        exact ⟨_, hc', this⟩
      obtain ⟨x, hx⟩ : ∃ x, x = R[i].1 := ⟨_, rfl⟩
      rw [← hx] at hck r1 r2 hlz
      simp only [← hx] at hpr
      have HPR := Lib.hid hpr
      clear hx hpr
      have d1 : decide ((x : Int) < lz) = false := decide_eq_false (by omega)
      have d2 : decide ((N : Int) ≤ (x : Int)) = false := decide_eq_false (by omega)
      have d2' : decide (N ≤ x) = false := decide_eq_false (by omega)
      by_cases h0 : 0 < i
      · obtain ⟨j, rfl⟩ : ∃ j, i = j + 1 := ⟨i - 1, by omega⟩
        obtain ⟨y, hy, hyx⟩ := HPR.out h0
        rw [Nat.add_sub_cancel] at hy
        have d3 : decide ((x : Int) ≤ (y : Int)) = false := decide_eq_false (by omega)
        have d3' : decide (x ≤ y) = false := decide_eq_false (by omega)
        have hjn : j < n := by omega
        go_wp2_with fail
        go_quiet (fail)
        go_wp2_with fail
        refine ⟨⟨j + 1 + 1, _, by go_num, by omega, rfl⟩, by simp [intOf]; omega⟩
      · obtain rfl : i = 0 := by omega
        go_wp2_with fail
        go_quiet (fail)
        go_wp2_with fail
        refine ⟨⟨0 + 1, _, by go_num, by omega, rfl⟩, by simp [intOf]; omega⟩
    · go_wp2
      go_ret
      exact ⟨rfl, _, rfl⟩
end Go.Proofs.Ytgajpekolamjbaa
