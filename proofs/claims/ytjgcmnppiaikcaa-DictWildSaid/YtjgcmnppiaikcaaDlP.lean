/- DlL DlP, laid as one. -/
import Derived.Test.YtjgcmnppiaikcaaDkV
import Derived.Test.YtjgcmnppiaikcaaSamesameBytes16
import Derived.Test.YtjgcmnppiaikcaaDlK
import Derived.Test.YtjgcmnppiaikcaaDlF
set_option linter.unusedVariables false
set_option linter.unusedSimpArgs false
/- Bytes lent, with their holder's behind the end; given back as they were. -/
namespace Go.Proofs.Ytjgcmnppiaikcaa
open Go.RowKit Go.Tk
set_option maxRecDepth 100000 in
set_option maxHeartbeats 1000000 in
theorem lentD_calls (w : World) (a : Option Addr) (n c : Nat) (z : List Int) (h : SlI .u8 w a n c z) (hn : n ≤ 140737488351232) :
    Calls Try.prog 17 #[.slice a n c] w fun e w' => e = .returned (.slice (some ⟨w.heap.size, 0, none⟩) n (n + 2)) ∧ Fresh .u8 5 w w' w.heap.size (z ++ [171, 172]) := by
  obtain ⟨i0, hi, hz0, hz1, hz2⟩ := info_parts Try.infoU8
  obtain ⟨Z, hZ⟩ : ∃ Z, Z = List.replicate (n + 2) (Value.int .u8 0) := ⟨_, rfl⟩
  obtain ⟨X, hX⟩ : ∃ X, X = z.map (Value.int .u8) := ⟨_, rfl⟩
  have lZ : Z.length = n + 2 := by rw [hZ]; simp
  have lX : X.length = n := by rw [hX]; simp [h.len]
  have hsp : splice Z 0 X = X ++ [.int .u8 0, .int .u8 0] := by
    rw [hZ]
    simp [splice, lX, List.drop_replicate]
  have hcells : 0 < X.length → ∃ ad, a = some ad ∧ ∀ j v, X[j]? = some v → w.cell? (ad.add j) = some v := by
    intro hp
    obtain ⟨b, o, rfl, _⟩ := h.cell 0 (by omega)
    refine ⟨_, rfl, fun j v hj => ?_⟩
    rw [hX] at hj
    simp only [List.getElem?_map, Option.map_eq_some_iff] at hj
    obtain ⟨x, hx, rfl⟩ := hj
    obtain ⟨hl, hx'⟩ := List.getElem?_eq_some_iff.1 hx
    obtain ⟨b', o', e, hc⟩ := h.cell j (by have := h.len; omega)
    obtain ⟨rfl, rfl⟩ : b = b' ∧ o = o' := by simpa using e
    rw [Addr.add_lit, hc]
    simp [hl, hx']
  have hzl := h.len
  have HZ := Lib.hid hZ
  have HX := Lib.hid hX
  have LZ := Lib.hid lZ
  have LX := Lib.hid lX
  have HS := Lib.hid hsp
  have HC := Lib.hid hcells
  have HZL := Lib.hid hzl
  clear hZ hX lZ lX hsp hcells h hzl
  go_enter Try.func17, Try.ntmps17
  go_wp2_with (first
    | (at_make; refine wpList_mk rfl _ _ _ rfl 5 i0 (.int .u8 0) 1 Try.underlying24 hi hz0 hz1 hz2 rfl _ _ _ _ (n + 2) rfl rfl (by go_num) (by go_num) (by omega) (by omega) ?_; intro w1 hw1 hb1; rw [← HZ.out] at hw1; have HW := Lib.hid hw1; have HB1 := Lib.hid hb1; clear hw1 hb1)
    | (with_reducible refine wpList_copy_splice rfl (.tmp 8) (.tmp 9) _ _ rfl 5 Try.underlying24 (by rw [hi]; simp [hz1]) _ _ _ _ _ _ rfl rfl w.heap.size 0 Z 5 HW.out X ?c1 ?c2 ?c3 ?c4 w.heap.size w ?c5 (Nat.le_refl _) ?_))
  case c1 => rw [LX.out]; simp
  case c2 =>
    intro hp
    obtain ⟨ad, rfl, hc⟩ := HC.out hp
    have hk : ∀ j v, X[j]? = some v → w1.cell? (ad.add j) = some v := fun j v hj => HB1.out.cell (hc j v hj) (by simp)
    first | exact ⟨rfl, ad, rfl, hk⟩ | exact ⟨ad, rfl, hk⟩ | (simp; exact hk)
  case c3 => rw [LX.out, LZ.out]; omega
  case c4 => rw [HX.out]; exact ints_oneCell _ _
  case c5 => exact below_of_grown HB1.out (Nat.le_refl _) (by simp)
  intro w2 h2 hb2
  have hrow : RowI .u8 5 w2 w.heap.size (z ++ [0, 0]) := by
    have := h2
    rw [HS.out, HX.out] at this
    unfold RowI
    rw [this]; simp
  have h3 := (hrow.set n 171)
  have h4 := (h3.set (n + 1) 172)
  have he : ((z ++ [0, 0]).set n 171).set (n + 1) 172 = z ++ [171, 172] := by
    have e := HZL.out
    subst e
    simp
  rw [he] at h4
  have c0 := hrow.cell n (by simp [HZL.out])
  have c1 := h3.cell (n + 1) (by simp [HZL.out])
  have f0 := hrow.frozen n
  have f1 := h3.frozen (n + 1)
  have HROW := Lib.hid hrow
  have H3 := Lib.hid h3
  have H4 := Lib.hid h4
  have HB2 := Lib.hid hb2
  have hlt := hrow.lt
  clear h2 hb2 hrow h3 h4 he
  go_wp2
  go_ret
  refine ⟨rfl, Nat.le_refl _, H4.out, ?_⟩
  exact (HB2.out.setCell (p := ⟨w.heap.size, n, none⟩) (Nat.le_refl _) _).setCell (p := ⟨w.heap.size, n + 1, none⟩) (Nat.le_refl _) _
theorem backD_calls (w : World) (g : Nat) (a : Option Addr) (n c : Nat) (z : List Int) (hrow : RowI .u8 5 w g (z ++ [171, 172])) (h : SlI .u8 w a n c z) (hn : n ≤ 140737488351232) :
    Calls Try.prog 21 #[.slice (some ⟨g, 0, none⟩) n (n + 2), .slice a n c] w fun e w' => e = .returned (.bool true) ∧ ∃ m, w' = w.drewN m := by
  have hzl := h.len
  have hsl := hrow.sl n (n + 2) (by simp; omega) (by simp; omega) (by omega)
  have ht : (z ++ [171, 172]).take n = z := by rw [← hzl]; simp
  rw [ht] at hsl
  have hsm := sameBytes16_calls w _ n (n + 2) z a n c z hsl h
  rw [sameB_yes rfl] at hsm
  have c0 := hrow.cell n (by simp; omega)
  have c1 := hrow.cell (n + 1) (by simp; omega)
  have e0 : (z ++ [171, 172]).getD n 0 = 171 := by rw [← hzl]; simp
  have e1 : (z ++ [171, 172]).getD (n + 1) 0 = 172 := by rw [← hzl]; simp
  rw [e0] at c0
  rw [e1] at c1
  have HSM := Lib.hid hsm
  clear hsm hsl ht hrow h hzl e0 e1
  go_enter Try.func21, Try.ntmps21
  go_wp2_with (go_at_call 14; refine HSM.out.mono ?_; rintro e w1 ⟨rfl, m, rfl⟩)
  go_ret
  exact ⟨rfl, _, rfl⟩
end Go.Proofs.Ytjgcmnppiaikcaa
/- A dictionary of any bytes: how long its texts are, how its numbers rise. Plain. -/
namespace Go.Proofs.Ytjgcmnppiaikcaa
open Go Go.RowKit Go.Tk
theorem ent_grow {eb : List UInt8} {p : Int} {first : Bool} {last s : List UInt8} {nx : Int} (h : entP eb p first last = (s, nx, 0)) : (s.length : Int) ≤ last.length + (nx - p) := by
  unfold entP at h
  split at h
  · cases h
  · rename_i hp
    simp only at h
    have hr1 : (0 ≤ (if first = true then ((0, 0, 0) : Int × Nat × Int) else upS (nums (eb.drop p.toNat)) 0 0 mxU).1) ∧ (if first = true then ((0, 0, 0) : Int × Nat × Int) else upS (nums (eb.drop p.toNat)) 0 0 mxU).2.1 ≤ (nums (eb.drop p.toNat)).length := by
      split
      · simp
      · have := ups_range (nums (eb.drop p.toNat)) 0 0 (Nat.zero_le _); exact ⟨this.1.1, this.2.2⟩
    generalize (if first = true then ((0, 0, 0) : Int × Nat × Int) else upS (nums (eb.drop p.toNat)) 0 0 mxU) = t1 at h hr1
    have hr2 := ups_range (nums (eb.drop p.toNat)) t1.2.1 0 hr1.2
    generalize upS (nums (eb.drop p.toNat)) t1.2.1 0 mxU = t2 at h hr2
    split at h
    · simp only [Prod.mk.injEq] at h; exact absurd h.2.2 (by assumption)
    split at h
    · simp only [Prod.mk.injEq] at h; exact absurd h.2.2 (by assumption)
    split at h
    · simp at h
    split at h
    · simp at h
    split at h
    · simp at h
    · simp only [Prod.mk.injEq, and_true] at h
      obtain ⟨rfl, rfl⟩ := h
      simp only [List.length_append, List.length_take, List.length_drop]
      omega
theorem bkF_txt (eb : List UInt8) (n : Nat) (p0 : Int) : ∀ (f i : Nat) (p : Int) (last : List UInt8), 0 ≤ p0 → p0 ≤ p → (last.length : Int) ≤ p - p0 → ∀ x ∈ bkF eb n f i p last, x.2.length ≤ eb.length
  | 0, _, _, _, _, _, _, x, hx => by simp [bkF] at hx
  | f + 1, i, p, last, h0, hp, hl, x, hx => by
    simp only [bkF] at hx
    split at hx
    · simp at hx
    split at hx
    · simp at hx
    rename_i h1 h2
    have he : entP eb p (decide (i % 16 = 0)) last = ((entP eb p (decide (i % 16 = 0)) last).1, (entP eb p (decide (i % 16 = 0)) last).2.1, 0) := by
      have := Classical.not_not.1 h2
      rw [← this]
    have hg := ent_grow he
    have ho := ent_ok he
    rcases List.mem_cons.1 hx with rfl | hx
    · simp only; omega
    · exact bkF_txt eb n p0 f (i + 1) _ _ h0 (by omega) (by omega) x hx
theorem blkN_txt (pz : List Int) (wd : Nat) (eb : List UInt8) (n q : Nat) : ∀ x ∈ blkN pz wd eb n q, x.2.length ≤ eb.length :=
  bkF_txt eb n (numT pz wd q wd : Nat) 16 (16 * q) (numT pz wd q wd : Nat) [] (by omega) (by omega) (by simp)
/-- What Get says of any dictionary. -/
theorem get_wild (pz : List Int) (wd : Nat) (eb : List UInt8) (n : Nat) (i : Int) : (getF pz wd eb n i).1.length ≤ eb.length ∧ ((getF pz wd eb n i).2 = true → 0 ≤ i ∧ i < n) ∧ ((getF pz wd eb n i).2 = false → (getF pz wd eb n i).1 = []) := by
  unfold getF
  split
  · simp
  · rename_i h
    split
    · rename_i x hx
      exact ⟨blkN_txt pz wd eb n _ x (List.mem_of_find?_eq_some hx), fun _ => by omega, fun h => by cases h⟩
    · simp
/-- Numbers that rise from one on, below n. -/
def RiseF (n : Nat) : Nat → List (Nat × List UInt8) → Prop
  | _, [] => True
  | lo, x :: L => lo ≤ x.1 ∧ x.1 < n ∧ RiseF n (x.1 + 1) L
theorem RiseF.app {n : Nat} : ∀ {lo hi : Nat} {A B : List (Nat × List UInt8)}, RiseF n lo A → (∀ x ∈ A, x.1 < hi) → lo ≤ hi → RiseF n hi B → RiseF n lo (A ++ B)
  | lo, hi, [], B, _, _, h, hB => by
    cases B with
    | nil => trivial
    | cons y B => exact ⟨Nat.le_trans h hB.1, hB.2⟩
  | lo, hi, x :: A, B, h1, h2, h, hB => ⟨h1.1, h1.2.1, RiseF.app h1.2.2 (fun y hy => h2 y (by simp [hy])) (h2 x (by simp)) hB⟩
theorem RiseF.at {n : Nat} : ∀ {lo : Nat} {L : List (Nat × List UInt8)}, RiseF n lo L → ∀ j (h : j < L.length), lo ≤ L[j].1 ∧ L[j].1 < n ∧ (∀ h2 : j + 1 < L.length, L[j].1 < L[j + 1].1)
  | lo, x :: L, h, 0, hj => ⟨h.1, h.2.1, fun h2 => by
      cases L with
      | nil => simp at h2
      | cons y L => exact h.2.2.1⟩
  | lo, x :: L, h, j + 1, hj => by
    have := RiseF.at h.2.2 j (by simpa using hj)
    simp only [List.getElem_cons_succ]
    exact ⟨by have := this.1; have := h.1; omega, this.2.1, fun h2 => this.2.2 (by simpa using h2)⟩
theorem bkF_rise (eb : List UInt8) (n fr : Nat) : ∀ (f i : Nat) (p : Int) (last : List UInt8) (lo : Nat), lo ≤ max fr i → RiseF n lo ((bkF eb n f i p last).filter fun x => decide (fr ≤ x.1))
  | 0, _, _, _, _, _ => by simp [bkF, RiseF]
  | f + 1, i, p, last, lo, hlo => by
    simp only [bkF]
    split
    · simp [RiseF]
    split
    · simp [RiseF]
    rename_i h1 h2
    by_cases h : fr ≤ i
    · rw [List.filter_cons_of_pos (by simpa using h)]
      exact ⟨by simp only; omega, by simp only; omega, bkF_rise eb n fr f (i + 1) _ _ (i + 1) (by omega)⟩
    · rw [List.filter_cons_of_neg (by simpa using h)]
      exact bkF_rise eb n fr f (i + 1) _ _ lo (by omega)
theorem eachG_rise (pz : List Int) (wd : Nat) (eb : List UInt8) (n fr : Nat) : ∀ (f k lo : Nat), lo ≤ max fr (16 * k) → RiseF n lo (eachG pz wd eb n fr f k)
  | 0, _, _, _ => by simp [eachG, RiseF]
  | f + 1, k, lo, hlo => by
    simp only [eachG]
    split
    · simp [RiseF]
    have hA : RiseF n lo ((blkN pz wd eb n k).filter fun x => decide (fr ≤ x.1)) := bkF_rise eb n fr 16 (16 * k) _ [] lo hlo
    split
    · rw [List.append_nil]; exact hA
    · rename_i h1 h2
      have hlt : ∀ x ∈ (blkN pz wd eb n k).filter fun x => decide (fr ≤ x.1), x.1 < max lo (16 * (k + 1)) := fun x hx => by
        have hx := (List.mem_filter.1 hx).1
        obtain ⟨j, hj, rfl⟩ := List.mem_iff_getElem.1 hx
        have h3 := (bkF_at eb n 16 (16 * k) _ [] j hj).1
        have h4 := bkF_len eb n 16 (16 * k) (numT pz wd k wd : Nat) []
        have hj2 : j < (bkF eb n 16 (16 * k) (numT pz wd k wd : Nat) []).length := hj
        have h5 : (blkN pz wd eb n k)[j].1 = 16 * k + j := h3
        omega
      exact RiseF.app hA hlt (by omega) (eachG_rise pz wd eb n fr f (k + 1) _ (by omega))
theorem eachG_txt (pz : List Int) (wd : Nat) (eb : List UInt8) (n fr : Nat) : ∀ (f k : Nat), ∀ x ∈ eachG pz wd eb n fr f k, x.2.length ≤ eb.length
  | 0, _, x, hx => by simp [eachG] at hx
  | f + 1, k, x, hx => by
    simp only [eachG] at hx
    split at hx
    · simp at hx
    rcases List.mem_append.1 hx with h | h
    · exact blkN_txt pz wd eb n k x (List.mem_filter.1 h).1
    · split at h
      · simp at h
      · exact eachG_txt pz wd eb n fr f (k + 1) x h
/-- What Each goes through, of any dictionary. -/
theorem each_wild (pz : List Int) (wd : Nat) (eb : List UInt8) (n : Nat) (fr : Int) : RiseF n fr.toNat (eachF pz wd eb n fr) ∧ ∀ x ∈ eachF pz wd eb n fr, x.2.length ≤ eb.length :=
  ⟨eachG_rise pz wd eb n fr.toNat _ _ _ (by omega), eachG_txt pz wd eb n fr.toNat _ _⟩
theorem range_wild (pz : List Int) (wd : Nat) (eb : List UInt8) (n : Nat) (s : List UInt8) : (rangeF pz wd eb n s).1 ≤ (rangeF pz wd eb n s).2 ∧ (rangeF pz wd eb n s).2 ≤ n ∧ (findF pz wd eb n s).1 ≤ n := by
  have h1 := ahead_le pz wd eb n (fun t => ltB t s)
  have h2 := ahead_le pz wd eb n (fun t => ltB t s || preB s t)
  unfold rangeF findF
  simp only
  omega
theorem hdE_len (b : List UInt8) : (hdE b).length ≤ b.length := by
  unfold hdE
  rw [List.length_take, List.length_drop]; omega
end Go.Proofs.Ytjgcmnppiaikcaa
