/- VaT VaJ, laid as one. -/
import Derived.Test.YtlhcejbimlilaaaGreatDoorVaS
import Derived.Test.YtlhcejbimlilaaaGreatDoorVaI
set_option linter.unusedVariables false
set_option linter.unusedSimpArgs false
/- The program's moments: in, readDateTime, readDay, readClock. -/
namespace Go.Tk
open Go Go.RowKit
def inW (o : Option (Bool × Int)) (sec : Int) (part z : List UInt8) : Mt := match o with
  | none => ⟨sec, part, false, 0, z⟩
  | some x => ⟨sec, part, x.1, x.2, if x.1 = true ∧ x.2 = 0 then [90] else z⟩
def inV (sec : Int) (part z : List UInt8) : Mt := inW (rdZ z) sec part z
theorem inP_eq (sec : Int) (part z : List UInt8) : inP sec part z = if (rdZ z).isSome = true then some (inV sec part z) else none := by
  unfold inP inV inW
  cases rdZ z <;> rfl
theorem rdY_bd {s : List UInt8} {y m d : Int} {e : List UInt8} (h : rdY s = some (y, m, d, e)) : (-1000000000 < y ∧ y < 1000000000) ∧ (1 ≤ m ∧ m ≤ 12) ∧ (1 ≤ d ∧ d ≤ mdP y m) ∧ e.length ≤ s.length := by
  rw [rdY_eq] at h
  split at h
  · rename_i hok
    unfold rdY2 at h
    cases h1 : twoP ((ngR s).drop ((yrI (ngR s)).toNat + 1)) [45] with
    | none => rw [h1] at h; cases h
    | some q =>
      obtain ⟨m', r⟩ := q
      rw [h1] at h
      simp only at h
      split at h
      · cases h
      · rename_i hm
        unfold rdY3 at h
        cases h2 : twoP r [] with
        | none => rw [h2] at h; cases h
        | some q =>
          obtain ⟨d', e'⟩ := q
          rw [h2] at h
          simp only at h
          split at h
          · cases h
          · rename_i hd
            simp only [Option.some.injEq, Prod.mk.injEq] at h
            obtain ⟨rfl, rfl, rfl, rfl⟩ := h
            have b1 := twoP_bd h1
            have b2 := twoP_bd h2
            have b3 := ngR_le s
            rw [List.length_drop] at b1
            refine ⟨?_, by omega, by omega, by omega⟩
            unfold okY at hok
            simp only [Bool.and_eq_true, decide_eq_true_eq] at hok
            have hn := numN_lt _ hok.1.2 (by rw [List.length_take]; omega)
            unfold yrZ
            split <;> omega
  · cases h
theorem dyP_bd {y m d : Int} (hy : -1000000000 < y ∧ y < 1000000000) (hm : 1 ≤ m ∧ m ≤ 12) (hd : 1 ≤ d ∧ d ≤ mdP y m) : -366000020000 ≤ dyP y m d ∧ dyP y m d ≤ 366000020000 := by
  have h1 := ydP_bd y (by omega) (by omega)
  have h2 := cmP_bd y (m - 1).toNat
  have h3 := mdP_bd y m
  unfold dyP
  omega
theorem rdD_bd {s : List UInt8} {n : Int} {r : List UInt8} (h : rdD s = some (n, r)) : (-366000020000 ≤ n ∧ n ≤ 366000020000) ∧ r.length ≤ s.length := by
  rw [rdD_eq] at h
  unfold dtO at h
  cases hy : rdY s with
  | none => rw [hy] at h; cases h
  | some q =>
    obtain ⟨y, m, d, e⟩ := q
    rw [hy] at h
    simp only [Option.map_some, Option.some.injEq, Prod.mk.injEq] at h
    obtain ⟨rfl, rfl⟩ := h
    have hb := rdY_bd hy
    exact ⟨dyP_bd hb.1 hb.2.1 hb.2.2.1, hb.2.2.2⟩
theorem rdT_bd {s : List UInt8} {c : Int} {p e : List UInt8} (h : rdT s = some (c, p, e)) : (0 ≤ c ∧ c ≤ 86400) ∧ p.length ≤ s.length ∧ e.length ≤ s.length := by
  cases h1 : twoP s [58] with
  | none => rw [rdT_1 h1] at h; cases h
  | some q =>
    obtain ⟨hh, r1⟩ := q
    cases h2 : twoP r1 [58] with
    | none => rw [rdT_2 h1 h2] at h; cases h
    | some q =>
      obtain ⟨m, r2⟩ := q
      cases h3 : twoP r2 [] with
      | none => rw [rdT_3 h1 h2 h3] at h; cases h
      | some q =>
        obtain ⟨c', r3⟩ := q
        rw [rdT_eq h1 h2 h3] at h
        have b1 := twoP_bd h1
        have b2 := twoP_bd h2
        have b3 := twoP_bd h3
        split at h
        · cases h
        · rename_i hr
          unfold rdT2 at h
          cases hf : rdF r3 with
          | none => rw [hf] at h; cases h
          | some q =>
            obtain ⟨p', e'⟩ := q
            rw [hf] at h
            simp only at h
            split at h
            · cases h
            · rename_i hb
              simp only [Option.some.injEq, Prod.mk.injEq] at h
              obtain ⟨rfl, rfl, rfl⟩ := h
              have hpe : p'.length ≤ r3.length ∧ e'.length ≤ r3.length := by
                unfold rdF at hf
                split at hf
                · split at hf
                  · cases hf
                  · simp only [Option.some.injEq, Prod.mk.injEq] at hf
                    obtain ⟨rfl, rfl⟩ := hf
                    have := tr0_le ((r3.drop 1).take (dgN (r3.drop 1)))
                    rw [List.length_take, List.length_drop] at this
                    rw [List.length_drop, List.length_drop]
                    omega
                · simp only [Option.some.injEq, Prod.mk.injEq] at hf
                  obtain ⟨rfl, rfl⟩ := hf
                  simp
              refine ⟨?_, by omega, by omega⟩
              by_cases h24 : hh = 24
              · have hm0 : ¬ 0 < m := fun g => hb ⟨h24, .inl g⟩
                have hc0 : ¬ 0 < c' := fun g => hb ⟨h24, .inr (.inl g)⟩
                omega
              · omega
theorem set_row {w : World} {g i : Nat} {cs cs' : Array Value} {T : TypeId} {v : Value} (h : w.heap[g]? = some (.cells cs T (0, 0))) (e : cs.setIfInBounds i v = cs') : (w.setCell ⟨g, i, none⟩ v).heap[g]? = some (.cells cs' T (0, 0)) := by
  rw [heap_setCell_same w g i cs T _ h, e]
theorem set_row_ne {w : World} {g g2 i : Nat} {o : Option Obj} {v : Value} (h : w.heap[g2]? = o) (hne : g ≠ g2) : (w.setCell ⟨g, i, none⟩ v).heap[g2]? = o :=
  (heap_setCell_other w _ g2 v (Ne.symm hne)).trans h
def mtO (o : Option Mt) (m : Mt) : Prop := ∀ m', o = some m' → m = m'
end Go.Tk
namespace Go.Proofs.YtlhcejbimlilaaaGreatDoor
open Go.RowKit Go.Tk
set_option maxHeartbeats 2000000 in
theorem in_calls (sec : Int) (P Z : ByteArray) (w : World) (hs : Z.size ≤ 4000000000) :
    Calls Tryz.prog 87 #[.agg #[.int .i64 sec, .string P, .bool false, .int .i64 0, .string ⟨#[]⟩], .string Z] w fun e w' => e = .returned (.tuple #[(inV sec P.data.toList Z.data.toList).val, .bool (rdZ Z.data.toList).isSome]) ∧ Below w.heap.size w w' := by
  have hrz := fun w => readZone_calls Z w hs
  obtain ⟨o, ho⟩ : ∃ o, o = rdZ Z.data.toList := ⟨_, rfl⟩
  unfold inV
  rw [← ho] at hrz ⊢
  clear ho
  cases o with
  | none =>
    have hrz : ∀ w, Calls Tryz.prog 129 #[.string Z] w fun e w' => e = .returned (.tuple #[.bool false, .int .i64 0, .bool false]) ∧ ∃ n, w' = w.drewN n := hrz
    have HRZ := Lib.hid hrz
    clear hrz
    unfold inW Mt.val
    dsimp only
    rw [str_mk, str_mk]
    show Calls _ _ _ _ fun e w' => e = .returned (.tuple #[.agg #[.int .i64 sec, .string P, .bool false, .int .i64 0, .string Z], .bool false]) ∧ _
    go_enter Tryz.func87, Tryz.ntmps87
    go_wp2_with (go_at_call 129; (with_reducible refine (HRZ.out _).mono ?_); rintro e w' ⟨rfl, n, rfl⟩)
    refine bodyPost_ret (v := .tuple #[.agg #[.int .i64 sec, .string P, .bool false, .int .i64 0, .string Z], .bool false]) (by simp [results, Tryz.results87, go_sem]) rfl ⟨rfl, ?_⟩
    repeat (first | with_reducible exact Below.refl _ _ | with_reducible refine below_drewN ?_ _ | (with_reducible refine Below.setCell ?_ (by simp) _) | (with_reducible refine Below.alloc ?_ (by simp) _))
  | some x =>
  obtain ⟨zd, zn⟩ := x
  have hrz : ∀ w, Calls Tryz.prog 129 #[.string Z] w fun e w' => e = .returned (.tuple #[.bool zd, .int .i64 zn, .bool true]) ∧ ∃ n, w' = w.drewN n := hrz
  have HRZ := Lib.hid hrz
  clear hrz
  obtain ⟨T, hT⟩ : ∃ T : ByteArray, T = ⟨(if zd = true ∧ zn = 0 then [90] else Z.data.toList).toArray⟩ := ⟨_, rfl⟩
  have hTz : (zd = true ∧ zn = 0 ∧ T = ⟨#[90]⟩) ∨ ((zd = false ∨ zd = true ∧ (zn == 0) = false) ∧ T = Z) := by
    cases zd with
    | false => exact .inr ⟨.inl rfl, by rw [hT, if_neg (by simp), str_mk]⟩
    | true =>
      by_cases hz : zn = 0
      · exact .inl ⟨rfl, hz, by rw [hT, if_pos ⟨rfl, hz⟩]⟩
      · exact .inr ⟨.inr ⟨rfl, by rw [beq_eq_false_iff_ne]; exact hz⟩, by rw [hT, if_neg (fun h => hz h.2), str_mk]⟩
  unfold inW Mt.val
  dsimp only
  rw [str_mk, ← hT]
  clear hT
  go_enter Tryz.func87, Tryz.ntmps87
  go_upto_region 4 with (go_at_call 129; (with_reducible refine (HRZ.out _).mono ?_); rintro e w' ⟨rfl, n, rfl⟩)
  obtain ⟨r1, r2, hb⟩ := box2 w (.cells #[.int .i64 sec, .string P, .bool false, .int .i64 0, .string ⟨#[]⟩] 76) (.cells #[.int .i64 0, .string ⟨#[]⟩, .bool false, .int .i64 0, .string ⟨#[]⟩] 76)
  generalize World.alloc (World.alloc w _) _ = w2 at r1 r2 hb ⊢
  have s1 := set_row (w := w2.drewN n) (g := w.heap.size) (i := 2) (v := .bool zd) r1 rfl
  have s2 := set_row (i := 3) (v := .int .i64 zn) s1 rfl
  have s3 := set_row (i := 4) (v := .string Z) s2 rfl
  have t1 := set_row_ne (w := w2.drewN n) (g := w.heap.size) (i := 2) (v := .bool zd) r2 (by omega)
  have t2 := set_row_ne (g := w.heap.size) (i := 3) (v := .int .i64 zn) t1 (by omega)
  have t3 := set_row_ne (g := w.heap.size) (i := 4) (v := .string Z) t2 (by omega)
  have hb3 : Below w.heap.size w ((((w2.drewN n).setCell ⟨w.heap.size, 2, none⟩ (.bool zd)).setCell ⟨w.heap.size, 3, none⟩ (.int .i64 zn)).setCell ⟨w.heap.size, 4, none⟩ (.string Z)) := (((below_drewN hb n).setCell (by simp) _).setCell (by simp) _).setCell (by simp) _
  generalize World.setCell (World.setCell (World.setCell (World.drewN w2 n) _ _) _ _) _ _ = w3 at s3 t3 hb3 ⊢
  clear s1 s2 t1 t2 r1 r2 hb
  have c0 := row_cell s3 0
  have c1 := row_cell s3 1
  have c2 := row_cell s3 2
  have c3 := row_cell s3 3
  have c4 := row_cell s3 4
  have d0 := row_cell t3 0
  have d1 := row_cell t3 1
  have d2 := row_cell t3 2
  have d3 := row_cell t3 3
  have d4 := row_cell t3 4
  have f1 : ∀ i, w3.frozen? ⟨w.heap.size, i, none⟩ = false := fun i => frozen_of_row _ _ _ _ _ s3
  have f2 : ∀ i, w3.frozen? ⟨w.heap.size + 1, i, none⟩ = false := fun i => frozen_of_row _ _ _ _ _ t3
  simp at c0 c1 c2 c3 c4 d0 d1 d2 d3 d4
  rcases hTz with ⟨rfl, rfl, rfl⟩ | ⟨h | ⟨h, hz⟩, rfl⟩
  · have s4 := set_row (i := 4) (v := .string ⟨#[90]⟩) s3 rfl
    have t4 := set_row_ne (g := w.heap.size) (i := 4) (v := .string ⟨#[90]⟩) t3 (by omega)
    have hb4 := hb3.setCell (p := ⟨w.heap.size, 4, none⟩) (by simp) (.string ⟨#[90]⟩)
    clear s3 t3 hb3
    go_upto_region 6 with fail
    generalize World.setCell w3 _ _ = w4 at s4 t4 hb4 ⊢
    clear c0 c1 c2 c3 c4 d0 d1 d2 d3 d4 f1 f2
    have c0 := row_cell s4 0
    have c1 := row_cell s4 1
    have c2 := row_cell s4 2
    have c3 := row_cell s4 3
    have c4 := row_cell s4 4
    have d0 := row_cell t4 0
    have d1 := row_cell t4 1
    have d2 := row_cell t4 2
    have d3 := row_cell t4 3
    have d4 := row_cell t4 4
    have f2 : ∀ i, w4.frozen? ⟨w.heap.size + 1, i, none⟩ = false := fun i => frozen_of_row _ _ _ _ _ t4
    simp at c0 c1 c2 c3 c4 d0 d1 d2 d3 d4
    clear s4 t4
    go_wp2_with fail
    refine bodyPost_ret (v := .tuple #[.agg #[.int .i64 sec, .string P, .bool true, .int .i64 0, .string ⟨#[90]⟩], .bool true]) (by simp [results, Tryz.results87, go_sem, d0, d1, d2, d3, d4]) rfl ⟨rfl, ?_⟩
    repeat (first | exact hb4 | (with_reducible refine Below.setCell ?_ (by simp) _))
  · subst h
    clear s3 t3
    go_wp2_with fail
    refine bodyPost_ret (v := .tuple #[.agg #[.int .i64 sec, .string P, .bool false, .int .i64 zn, .string _], .bool true]) (by simp [results, Tryz.results87, go_sem, d0, d1, d2, d3, d4]) rfl ⟨rfl, ?_⟩
    repeat (first | exact hb3 | (with_reducible refine Below.setCell ?_ (by simp) _))
  · subst h
    clear s3 t3
    go_wp2_with fail
    refine bodyPost_ret (v := .tuple #[.agg #[.int .i64 sec, .string P, .bool true, .int .i64 zn, .string _], .bool true]) (by simp [results, Tryz.results87, go_sem, d0, d1, d2, d3, d4]) rfl ⟨rfl, ?_⟩
    repeat (first | exact hb3 | (with_reducible refine Below.setCell ?_ (by simp) _))
end Go.Proofs.YtlhcejbimlilaaaGreatDoor
/- The program's base64 (written by gen_vaj.py). -/
namespace Go.Tk
open Go Go.RowKit
def b6T : List UInt8 := [65, 66, 67, 68, 69, 70, 71, 72, 73, 74, 75, 76, 77, 78, 79, 80, 81, 82, 83, 84, 85, 86, 87, 88, 89, 90, 97, 98, 99, 100, 101, 102, 103, 104, 105, 106, 107, 108, 109, 110, 111, 112, 113, 114, 115, 116, 117, 118, 119, 120, 121, 122, 48, 49, 50, 51, 52, 53, 54, 55, 56, 57, 43, 47]
def b6V (c : UInt8) : Int := Lib.indexByte b6T c
/-- Six bits a sign: B the bits that are held, H how many. What is left, and the bytes. -/
def b6F : Nat → Nat → List UInt8 → Option (Nat × List UInt8)
  | B, _, [] => some (B, [])
  | B, H, c :: t => if b6V c < 0 then none else
      if 2 ≤ H then (b6F ((B * 64 + (b6V c).toNat) % 2 ^ (H - 2)) (H - 2) t).map fun q => (q.1, UInt8.ofNat ((B * 64 + (b6V c).toNat) / 2 ^ (H - 2)) :: q.2)
      else b6F (B * 64 + (b6V c).toNat) (H + 6) t
def tre (l : List UInt8) : List UInt8 := Lib.trimRightB l 61
def b6E : Option (Nat × List UInt8) → List UInt8 × Bool
  | none => ([], false)
  | some (z, o) => (o, z == 0)
def b6R (l : List UInt8) : List UInt8 × Bool :=
  if l.length % 4 ≠ 0 then ([], false) else if 2 < l.length - (tre l).length then ([], false) else b6E (b6F 0 0 (tre l))
theorem b6V_bd (c : UInt8) : -1 ≤ b6V c ∧ b6V c ≤ 63 := by
  have h1 := Lib.indexByte_ge b6T c
  have h2 := indexByte_lt b6T c
  have h3 : b6T.length = 64 := rfl
  unfold b6V
  rw [h3] at h2
  exact ⟨h1, by omega⟩
theorem b6F_bad {B H : Nat} {c : UInt8} {t : List UInt8} (h : b6V c < 0) : b6F B H (c :: t) = none := by simp only [b6F]; rw [if_pos h]
theorem b6F_0 {B : Nat} {c : UInt8} {t : List UInt8} (h : 0 ≤ b6V c) : b6F B 0 (c :: t) = b6F (B * 64 + (b6V c).toNat) 6 t := by simp only [b6F]; rw [if_neg (by omega), if_neg (by omega)]
theorem b6F_s {B H : Nat} {c : UInt8} {t : List UInt8} (h : 0 ≤ b6V c) : b6F B (H + 2) (c :: t) = (b6F ((B * 64 + (b6V c).toNat) % 2 ^ H) H t).map fun q => (q.1, UInt8.ofNat ((B * 64 + (b6V c).toNat) / 2 ^ H) :: q.2) := by
  simp only [b6F]; rw [if_neg (by omega), if_pos (by omega)]; rfl
theorem tre_le (l : List UInt8) : (tre l).length ≤ l.length := by
  have h : ∀ l : List UInt8, (l.dropWhile (· == 61)).length ≤ l.length := fun l => by
    induction l with
    | nil => simp
    | cons c t ih => rw [List.dropWhile_cons]; split
                     · simp only [List.length_cons]; omega
                     · exact Nat.le_refl _
  have := h l.reverse
  unfold tre Lib.trimRightB
  rw [List.length_reverse] at this ⊢
  exact this
theorem and_i64 (x k : Nat) (hx : x < 4611686018427387904) (hk : 2 ^ k ≤ 4611686018427387904) : bits .and .i64 (x : Int) ((2 ^ k - 1 : Nat) : Int) = ((x % 2 ^ k : Nat) : Int) := by
  have h1 : 1 ≤ 2 ^ k := Nat.one_le_two_pow
  have key : (BitVec.ofInt 64 (x : Int) &&& BitVec.ofInt 64 ((2 ^ k - 1 : Nat) : Int)).toNat = x % 2 ^ k := by
    rw [BitVec.toNat_and, BitVec.toNat_ofInt, BitVec.toNat_ofInt]
    have e1 : ((x : Int) % ((2 ^ 64 : Nat) : Int)).toNat = x := by omega
    have e2 : (((2 ^ k - 1 : Nat) : Int) % ((2 ^ 64 : Nat) : Int)).toNat = 2 ^ k - 1 := by omega
    rw [e1, e2, Nat.and_two_pow_sub_one_eq_mod]
  show IntKind.i64.wrap ((BitVec.ofInt 64 (x : Int) &&& BitVec.ofInt 64 ((2 ^ k - 1 : Nat) : Int)).toNat : Nat) = _
  rw [key, IntKind.wrap_i64]
  have h2 : x % 2 ^ k ≤ x := Nat.mod_le _ _
  obtain ⟨m, hm⟩ : ∃ m, m = x % 2 ^ k := ⟨_, rfl⟩
  rw [← hm] at h2 ⊢
  omega
end Go.Tk
namespace Go.Proofs.YtlhcejbimlilaaaGreatDoor
open Go.RowKit Go.Tk
theorem trimE_calls (s : ByteArray) (w : World) (hs : s.size ≤ 9223372036854775807) : Calls Tryz.prog 82 #[.string s, .string ⟨#[61]⟩] w fun e w' => e = .returned (.string ⟨(tre s.data.toList).toArray⟩) ∧ w = w' :=
  (Tryz.strings_TrimRight_one s 61 (by decide) w hs).mono fun _ _ ⟨h, h2⟩ => ⟨h, h2.symm⟩
set_option maxHeartbeats 2000000 in
theorem base64_calls (s : ByteArray) (w : World) (hs : s.size ≤ 1000000000) : Calls Tryz.prog 34 #[.string s] w fun e w' => e = .returned (.tuple #[.string ⟨(b6R s.data.toList).1.toArray⟩, .bool (b6R s.data.toList).2]) ∧ Below w.heap.size w w' := by
  have hll : s.data.toList.length = s.size := (Lib.size_eq s).symm
  by_cases hodd : s.size % 4 ≠ 0
  · have e : b6R s.data.toList = ([], false) := by unfold b6R; rw [hll, if_pos hodd]
    rw [e]
    have ho : (((s.size : Int) % 4) != 0) = true := by rw [bne_iff_ne]; omega
    clear e hll hodd
    go_enter Tryz.func34, Tryz.ntmps34
    go_wp2_with fail
    go_ret2
    exact ⟨rfl, Below.refl _ _⟩
  have ho : (((s.size : Int) % 4) != 0) = false := by rw [bne_eq_false_iff_eq]; omega
  have htr := fun w => trimE_calls s w (by omega)
  obtain ⟨U, hU⟩ : ∃ U : ByteArray, U = ⟨(tre s.data.toList).toArray⟩ := ⟨_, rfl⟩
  have hUd : U.data.toList = tre s.data.toList := by rw [hU]
  have hUs : U.size ≤ s.size := by rw [Lib.size_eq, hUd, ← hll]; exact tre_le _
  have hUl : (tre s.data.toList).length = U.size := by rw [← hUd, Lib.size_eq]
  rw [← hU] at htr
  have HTR := Lib.hid htr
  by_cases h2 : 2 < s.size - U.size
  · have e : b6R s.data.toList = ([], false) := by unfold b6R; rw [hll, if_neg hodd, hUl, if_pos h2]
    rw [e]
    have h2' : 2 < (s.size : Int) - (U.size : Int) := by omega
    clear e hll hodd htr hU hUd hUl h2
    go_enter Tryz.func34, Tryz.ntmps34
    go_wp2_with (go_at_call 82; (with_reducible refine (HTR.out _).mono ?_); rintro e w' ⟨rfl, rfl⟩)
    go_ret2
    exact ⟨rfl, Below.refl _ _⟩
  have e : b6R s.data.toList = b6E (b6F 0 0 U.data.toList) := by unfold b6R; rw [hll, if_neg hodd, hUl, if_neg h2, hUd]
  rw [e]
  obtain ⟨O, hO⟩ : ∃ O, O = b6F 0 0 U.data.toList := ⟨_, rfl⟩
  rw [← hO]
  obtain ⟨⟨T, ok⟩, hR⟩ : ∃ R : List UInt8 × Bool, R = b6E O := ⟨_, rfl⟩
  rw [← hR]
  dsimp only
  have HR := Lib.hid hR
  clear hR
  have HO := Lib.hid hO
  have h2' : (s.size : Int) - (U.size : Int) ≤ 2 := by omega
  clear e hll hodd htr hU hUd hUl h2 hO
  go_enter Tryz.func34, Tryz.ntmps34
  go_wp2_with (go_at_call 82; (with_reducible refine (HTR.out _).mono ?_); rintro e w' ⟨rfl, rfl⟩)
  go_loopw [5, 6, 7, 8, 9, 24] (fun v bt hd _ _ i wr => ∃ (j : Nat) (acc : List UInt8) (B H : Nat), j ≤ U.size ∧ acc.length ≤ j ∧ (H = 0 ∨ H = 2 ∨ H = 4 ∨ H = 6) ∧ B < 2 ^ H ∧ bt = .int .i64 (B : Nat) ∧ hd = .int .i64 (H : Nat) ∧ i = .int .i64 (j : Nat) ∧ Ow .u8 5 w.heap.size wr v (nums acc) ∧ Below w.heap.size w wr ∧ O = (b6F B H (U.data.toList.drop j)).map (fun q => (q.1, acc ++ q.2))) (fun _ _ _ _ _ i _ => U.size - (intOf i).toNat)
  case atStart => exact ⟨0, [], 0, 0, Nat.zero_le _, Nat.le_refl _, .inl rfl, by decide, rfl, rfl, rfl, Ow.nil _ _ _ _, Below.refl _ _, by rw [HO.out]; simp⟩
  case round =>
    obtain ⟨j, acc, B, H, hj, hal, hH, hB, rfl, rfl, rfl, how, hbw, hoe⟩ := hrel
    have HOW := Lib.hid how
    have HBW := Lib.hid hbw
    by_cases hlt : j < U.size
    · have hz0 : j < U.data.toList.length := by rw [← Lib.size_eq]; exact hlt
      have hd1 : U.data.toList.drop j = U[j] :: U.data.toList.drop (j + 1) := by
        rw [List.drop_eq_getElem_cons hz0, ba_get U _ hlt]
      rw [hd1] at hoe
      obtain ⟨a, ha⟩ : ∃ a, U[j] = a := ⟨_, rfl⟩
      rw [ha] at hoe
      have hia := fun w => idx_calls ⟨b6T.toArray⟩ a w
      have bda := b6V_bd a
      obtain ⟨x, hx⟩ : ∃ x, x = b6V a := ⟨_, rfl⟩
      have hia : ∀ w, Calls Tryz.prog 81 #[.string ⟨#[65, 66, 67, 68, 69, 70, 71, 72, 73, 74, 75, 76, 77, 78, 79, 80, 81, 82, 83, 84, 85, 86, 87, 88, 89, 90, 97, 98, 99, 100, 101, 102, 103, 104, 105, 106, 107, 108, 109, 110, 111, 112, 113, 114, 115, 116, 117, 118, 119, 120, 121, 122, 48, 49, 50, 51, 52, 53, 54, 55, 56, 57, 43, 47]⟩, .int .u8 (a.toNat : Int)] w fun e w' => e = .returned (.int .i64 x) ∧ w = w' := fun w => by rw [hx]; exact hia w
      have hA : (((U[j]'hlt).toNat : Nat) : Int) = (a.toNat : Int) := by rw [ha]
      rw [← hx] at bda
      obtain ⟨bda1, bda2⟩ := bda
      have HIA := Lib.hid hia
      have HX := Lib.hid hx
      have HOE := Lib.hid hoe
      clear how hbw hz0 hd1 hia hx ha hoe
      by_cases hx0 : x < 0
      · have hfin : O = none := by rw [HOE.out, b6F_bad (by rw [← HX.out]; exact hx0)]; rfl
        have hf := HR.out
        rw [hfin] at hf
        obtain ⟨rfl, rfl⟩ := Prod.mk.inj hf
        clear hf hfin
        clear HOE hH hB
        go_wp2_with (go_at_call 81; (with_reducible refine (HIA.out _).mono ?_); rintro e w' ⟨rfl, rfl⟩)
        go_ret2
        exact ⟨rfl, HBW.out⟩
      have hx1 : 0 ≤ x := by omega
      obtain ⟨m, rfl⟩ : ∃ m : Nat, x = m := ⟨x.toNat, by omega⟩
      have hm64 : m < 64 := by omega
      have hxm : (b6V a).toNat = m := by rw [← HX.out]; rfl
      have hb0 : 0 ≤ b6V a := by rw [← HX.out]; exact hx1
      have HBV := Lib.hid hb0
      have HXM := Lib.hid hxm
      clear hx0 hxm hb0 bda1 bda2 HX
      rcases hH with rfl | rfl | rfl | rfl
      · have hB2 : B < 1 := by simpa using hB
        have hor := or_i64_add (B : Int) (m : Int) 6 (by omega) (by omega) (by omega) (by omega) (by omega)
        obtain ⟨z, hz⟩ : ∃ z, z = B * 64 + m := ⟨_, rfl⟩
        have hor : bits .or .i64 ((B : Int) * 64) (m : Int) = (z : Int) := hor.trans (by omega)
        have hz1 : z < 64 := by omega
        have hst := HOE.out
        rw [b6F_0 HBV.out, HXM.out, ← hz] at hst
        have HST := Lib.hid hst
        clear hst hz HOE hB HBV HXM
        go_wp2_with (go_at_call 81; (with_reducible refine (HIA.out _).mono ?_); rintro e w' ⟨rfl, rfl⟩)
        go_roundw
        case rel => exact ⟨j + 1, acc, z, 6, by omega, by omega, by omega, hz1, rfl, rfl, by go_num, HOW.out, HBW.out, HST.out⟩
        case measure => simp [intOf]; omega
      · have hB2 : B < 4 := by simpa using hB
        have hor := or_i64_add (B : Int) (m : Int) 6 (by omega) (by omega) (by omega) (by omega) (by omega)
        obtain ⟨z, hz⟩ : ∃ z, z = B * 64 + m := ⟨_, rfl⟩
        have hor : bits .or .i64 ((B : Int) * 64) (m : Int) = (z : Int) := hor.trans (by omega)
        have hz1 : z < 256 := by omega
        have hst := HOE.out
        rw [b6F_s (H := 0) HBV.out, HXM.out, ← hz] at hst
        have hand := and_i64 z 0 (by omega) (by decide)
        have hand : bits .and .i64 (z : Int) 0 = ((z % 1 : Nat) : Int) := hand
        obtain ⟨r, hr⟩ : ∃ r, r = z % 1 := ⟨_, rfl⟩
        rw [← hr] at hand
        obtain ⟨q, hq⟩ : ∃ q, q = z / 1 := ⟨_, rfl⟩
        have hqi : (z : Int) / 1 = (q : Int) := by omega
        have hq1 : q < 256 := by omega
        have hr1 : r < 1 := by omega
        have hnew : O = (b6F r 0 (U.data.toList.drop (j + 1))).map (fun y => (y.1, (acc ++ [UInt8.ofNat (q : Int).toNat]) ++ y.2)) := by
          rw [hst, show z % 2 ^ 0 = r from hr.symm, show z / 2 ^ 0 = q from hq.symm]
          cases b6F r 0 (U.data.toList.drop (j + 1)) <;> simp
        have hnn := nums_one acc (q : Int) (by omega) (by omega)
        have hal3 : (nums acc).length ≤ 1000000000 := by rw [nums_len]; omega
        have HNEW := Lib.hid hnew
        have HNN := Lib.hid hnn
        have hsz3 : w.heap.size ≤ wr.heap.size := HBW.out.size
        have hw6 : ((B : Int) * 64 + m) = z := by omega
        clear hst hz hr hq hnew hnn HOE hB HBV HXM hw6
        go_wp2_with (first | (go_at_call 81; (with_reducible refine (HIA.out _).mono ?_); rintro e w' ⟨rfl, rfl⟩) | (at_builtin; refine wpList_appJ rfl (.tmp 43) (.tmp 48) _ rfl .u8 w.heap.size 5 _ 1 Tryz.underlying65 Tryz.infoU8 rfl _ (nums acc) rfl (HOW.out.alloc _) _ 1 1 [(q : Int)] rfl (SlI.one _ _ _ _) (by simp) (by omega) (by omega) (by simp; omega) ?_; intro v4 w4 ow4 hg4 st4; (have OW4 := Lib.hid ow4); (have HG4 := Lib.hid hg4); clear ow4 hg4 st4))
        go_roundw
        case rel =>
          refine ⟨j + 1, acc ++ [UInt8.ofNat (q : Int).toNat], r, 0, by omega, by rw [List.length_append]; simp; omega, by omega, hr1, rfl, rfl, by go_num, by rw [HNN.out]; exact OW4.out, (HBW.out.alloc (by simpa using hsz3) _).grown HG4.out (by simp; omega) (fun k e => ?_), HNEW.out⟩
          exact (HOW.out.lt k e).1
        case measure => simp [intOf]; omega
      · have hB2 : B < 16 := by simpa using hB
        have hor := or_i64_add (B : Int) (m : Int) 6 (by omega) (by omega) (by omega) (by omega) (by omega)
        obtain ⟨z, hz⟩ : ∃ z, z = B * 64 + m := ⟨_, rfl⟩
        have hor : bits .or .i64 ((B : Int) * 64) (m : Int) = (z : Int) := hor.trans (by omega)
        have hz1 : z < 1024 := by omega
        have hst := HOE.out
        rw [b6F_s (H := 2) HBV.out, HXM.out, ← hz] at hst
        have hand := and_i64 z 2 (by omega) (by decide)
        have hand : bits .and .i64 (z : Int) 3 = ((z % 4 : Nat) : Int) := hand
        obtain ⟨r, hr⟩ : ∃ r, r = z % 4 := ⟨_, rfl⟩
        rw [← hr] at hand
        obtain ⟨q, hq⟩ : ∃ q, q = z / 4 := ⟨_, rfl⟩
        have hqi : (z : Int) / 4 = (q : Int) := by omega
        have hq1 : q < 256 := by omega
        have hr1 : r < 4 := by omega
        have hnew : O = (b6F r 2 (U.data.toList.drop (j + 1))).map (fun y => (y.1, (acc ++ [UInt8.ofNat (q : Int).toNat]) ++ y.2)) := by
          rw [hst, show z % 2 ^ 2 = r from hr.symm, show z / 2 ^ 2 = q from hq.symm]
          cases b6F r 2 (U.data.toList.drop (j + 1)) <;> simp
        have hnn := nums_one acc (q : Int) (by omega) (by omega)
        have hal3 : (nums acc).length ≤ 1000000000 := by rw [nums_len]; omega
        have HNEW := Lib.hid hnew
        have HNN := Lib.hid hnn
        have hsz3 : w.heap.size ≤ wr.heap.size := HBW.out.size
        have hw6 : ((B : Int) * 64 + m) = z := by omega
        clear hst hz hr hq hnew hnn HOE hB HBV HXM hw6
        go_wp2_with (first | (go_at_call 81; (with_reducible refine (HIA.out _).mono ?_); rintro e w' ⟨rfl, rfl⟩) | (at_builtin; refine wpList_appJ rfl (.tmp 43) (.tmp 48) _ rfl .u8 w.heap.size 5 _ 1 Tryz.underlying65 Tryz.infoU8 rfl _ (nums acc) rfl (HOW.out.alloc _) _ 1 1 [(q : Int)] rfl (SlI.one _ _ _ _) (by simp) (by omega) (by omega) (by simp; omega) ?_; intro v4 w4 ow4 hg4 st4; (have OW4 := Lib.hid ow4); (have HG4 := Lib.hid hg4); clear ow4 hg4 st4))
        go_roundw
        case rel =>
          refine ⟨j + 1, acc ++ [UInt8.ofNat (q : Int).toNat], r, 2, by omega, by rw [List.length_append]; simp; omega, by omega, hr1, rfl, rfl, by go_num, by rw [HNN.out]; exact OW4.out, (HBW.out.alloc (by simpa using hsz3) _).grown HG4.out (by simp; omega) (fun k e => ?_), HNEW.out⟩
          exact (HOW.out.lt k e).1
        case measure => simp [intOf]; omega
      · have hB2 : B < 64 := by simpa using hB
        have hor := or_i64_add (B : Int) (m : Int) 6 (by omega) (by omega) (by omega) (by omega) (by omega)
        obtain ⟨z, hz⟩ : ∃ z, z = B * 64 + m := ⟨_, rfl⟩
        have hor : bits .or .i64 ((B : Int) * 64) (m : Int) = (z : Int) := hor.trans (by omega)
        have hz1 : z < 4096 := by omega
        have hst := HOE.out
        rw [b6F_s (H := 4) HBV.out, HXM.out, ← hz] at hst
        have hand := and_i64 z 4 (by omega) (by decide)
        have hand : bits .and .i64 (z : Int) 15 = ((z % 16 : Nat) : Int) := hand
        obtain ⟨r, hr⟩ : ∃ r, r = z % 16 := ⟨_, rfl⟩
        rw [← hr] at hand
        obtain ⟨q, hq⟩ : ∃ q, q = z / 16 := ⟨_, rfl⟩
        have hqi : (z : Int) / 16 = (q : Int) := by omega
        have hq1 : q < 256 := by omega
        have hr1 : r < 16 := by omega
        have hnew : O = (b6F r 4 (U.data.toList.drop (j + 1))).map (fun y => (y.1, (acc ++ [UInt8.ofNat (q : Int).toNat]) ++ y.2)) := by
          rw [hst, show z % 2 ^ 4 = r from hr.symm, show z / 2 ^ 4 = q from hq.symm]
          cases b6F r 4 (U.data.toList.drop (j + 1)) <;> simp
        have hnn := nums_one acc (q : Int) (by omega) (by omega)
        have hal3 : (nums acc).length ≤ 1000000000 := by rw [nums_len]; omega
        have HNEW := Lib.hid hnew
        have HNN := Lib.hid hnn
        have hsz3 : w.heap.size ≤ wr.heap.size := HBW.out.size
        have hw6 : ((B : Int) * 64 + m) = z := by omega
        clear hst hz hr hq hnew hnn HOE hB HBV HXM hw6
        go_wp2_with (first | (go_at_call 81; (with_reducible refine (HIA.out _).mono ?_); rintro e w' ⟨rfl, rfl⟩) | (at_builtin; refine wpList_appJ rfl (.tmp 43) (.tmp 48) _ rfl .u8 w.heap.size 5 _ 1 Tryz.underlying65 Tryz.infoU8 rfl _ (nums acc) rfl (HOW.out.alloc _) _ 1 1 [(q : Int)] rfl (SlI.one _ _ _ _) (by simp) (by omega) (by omega) (by simp; omega) ?_; intro v4 w4 ow4 hg4 st4; (have OW4 := Lib.hid ow4); (have HG4 := Lib.hid hg4); clear ow4 hg4 st4))
        go_roundw
        case rel =>
          refine ⟨j + 1, acc ++ [UInt8.ofNat (q : Int).toNat], r, 4, by omega, by rw [List.length_append]; simp; omega, by omega, hr1, rfl, rfl, by go_num, by rw [HNN.out]; exact OW4.out, (HBW.out.alloc (by simpa using hsz3) _).grown HG4.out (by simp; omega) (fun k e => ?_), HNEW.out⟩
          exact (HOW.out.lt k e).1
        case measure => simp [intOf]; omega
    · have hfin : O = some (B, acc) := by
        rw [hoe, List.drop_of_length_le (by rw [← Lib.size_eq]; omega)]; simp [b6F]
      have hf := HR.out
      rw [hfin] at hf
      obtain ⟨rfl, hok⟩ := Prod.mk.inj hf
      clear hf hfin
      obtain ⟨va, vc, rfl, hsl, _⟩ := how.sl
      have hcv := how.str Tryz.underlying65 Tryz.underlying5 Tryz.underlying9
      have HCV := Lib.hid hcv
      have hbe : (((B : Nat) : Int) == 0) = ok := by
        rw [hok]
        by_cases hb : B = 0
        · subst hb; rfl
        · rw [beq_eq_false_iff_ne.2 hb, beq_eq_false_iff_ne]; omega
      clear hal how hbw hoe hsl hcv hB hH hok
      have hcv := HCV.out
      go_wp2_with fail
      go_ret2
      exact ⟨rfl, HBW.out⟩
end Go.Proofs.YtlhcejbimlilaaaGreatDoor
