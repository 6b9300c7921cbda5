/- Bytes RkP, laid as one. -/
import Derived.Test.YtgajpekolamjbaaDoorCpK
import Derived.Lib.AppendStr
import Derived.Lib.Strings
import Derived.Laws.IdiomStrings
import Derived.Laws.BytesArg
set_option linter.unusedVariables false
set_option linter.unusedSimpArgs false
/- Bytes: slices that the call owns, as bytes; append of a string; strings of bytes. -/
namespace Go.Tk
open Go Go.RowKit
/-- Bytes as numbers. -/
def nums (l : List UInt8) : List Int := l.map fun b => (b.toNat : Int)
theorem nums_len (l : List UInt8) : (nums l).length = l.length := by simp [nums]
theorem nums_append (a b : List UInt8) : nums (a ++ b) = nums a ++ nums b := by simp [nums]
theorem nums_take (a : List UInt8) (n : Nat) : (nums a).take n = nums (a.take n) := by simp [nums, List.map_take]
theorem nums_drop (a : List UInt8) (n : Nat) : (nums a).drop n = nums (a.drop n) := by simp [nums, List.map_drop]
theorem nums_getD (l : List UInt8) (i : Nat) (h : i < l.length) : (nums l).getD i 0 = (l[i].toNat : Int) := by simp [nums, h]
theorem nums_cells (l : List UInt8) : (nums l).map (Value.int .u8) = l.map fun b => Value.int .u8 b.toNat := by simp [nums]
theorem nums_inj {a b : List UInt8} (h : nums a = nums b) : a = b := by
  have : ∀ (a b : List UInt8), nums a = nums b → a = b := by
    intro a
    induction a with
    | nil => intro b h; cases b with
      | nil => rfl
      | cons y b => simp [nums] at h
    | cons x a ih => intro b h; cases b with
      | nil => simp [nums] at h
      | cons y b =>
        simp [nums] at h
        obtain ⟨h1, h2⟩ := h
        have h3 : x = y := UInt8.toNat.inj (by omega)
        rw [h3, ih b (by simpa [nums] using h2)]
  exact this a b h
theorem strCells_nums (s : ByteArray) : Lib.strCells s = (nums s.data.toList).map (Value.int .u8) := by rw [nums_cells]; rfl
theorem byte_lit_ne {a : UInt8} {x : Int} (b : UInt8) (hb : x = (b.toNat : Int)) (h : a ≠ b) : ((a.toNat : Int) == x) = false := by
  rw [beq_eq_false_iff_ne]; intro e; exact h (UInt8.toNat.inj (by omega))
theorem byte_lit_eq {a : UInt8} {x : Int} (b : UInt8) (hb : x = (b.toNat : Int)) (h : a = b) : ((a.toNat : Int) == x) = true := by
  rw [beq_iff_eq, hb, h]
/-- append(v, s...), s a string, v the call's own bytes. -/
theorem wpList_appS {P : Program} {w : World} {ops : Array Oper} {rest : List Oper} {o : Oper} {a : Act} {Q : Exit → Act → World → Prop} (hgd : o.guard = none) (sl x : Operand) (t u : TypeId)
    (ho : o.op = .call { callee := .builtin .append, args := #[sl, x], argTypes := #[t, u] })
    (base : Nat) (e : TypeId) (ht : P.underlying t = some (.slice e)) (hu : P.underlying u = some .string) (hinfo : (P.info? e).map (fun i => (i.zero, i.size, i.bytes)) = some (some (.int .u8 0), 1, 1))
    (v : Value) (bs : List UInt8) (hs : a.eval sl = v) (hown : Ow .u8 e base w v (nums bs)) (s : ByteArray) (hx : a.eval x = .string s)
    (hbytes : bs.length + s.size ≤ 140737488355328) (hbase : base ≤ w.heap.size)
    (h : ∀ v' w', Ow .u8 e base w' v' (nums (bs ++ s.data.toList)) → w.grownBy w' v.ownBlock → wpList P ops Q rest (a.put o.dst v') w') : wpList P ops Q (o :: rest) a w := by
  obtain ⟨i, hi, hz0, hz1, hz2⟩ := info_parts hinfo
  refine Lib.wpList_append_own_string (w := w) hgd sl x t u ho base e i ht hu hi hz0 hz1 hz2 v (nums bs).length _ hs hown s hx (by simp only [maxLen, nums_len]; omega) (by rw [nums_len]; omega) hbase ?_
  intro v' w' h1 h2 _
  refine h v' w' ?_ h2
  unfold Ow
  rw [nums_append, List.length_append, List.map_append]
  rw [strCells_nums] at h1
  have hl : (nums s.data.toList).length = s.size := by rw [nums_len, Lib.size_eq]
  rw [hl]
  exact h1
/-- A shorter front of an owned row is owned. -/
theorem Ow.front {k : IntKind} {e : TypeId} {base : Nat} {w : World} {a : Option Addr} {n c : Nat} {zs : List Int} (h : Ow k e base w (.slice a n c) zs) (m : Nat) (hm : m ≤ zs.length) : Ow k e base w (.slice a m c) (zs.take m) := by
  have hlen : (zs.take m).length = m := by simp; omega
  unfold Ow at h ⊢
  refine ⟨by simp, ?_⟩
  rcases h.2 with ⟨hv, hz⟩ | ⟨g, cap, cur, hv, hb, hg, h1, h2, h3, h4⟩
  · simp at hv hz
    obtain ⟨rfl, rfl, rfl⟩ := hv
    left
    subst hz
    have : m = 0 := by simpa using hm
    subst this
    simp
  · simp at hv
    obtain ⟨rfl, hn, rfl⟩ := hv
    right
    refine ⟨g, c, cur, by rw [hlen], hb, hg, by omega, h2, h3, ?_⟩
    rw [hlen, Nat.mul_one, List.map_take]
    rw [Nat.mul_one] at h4
    rw [← h4, List.take_take, Nat.min_eq_left hm]
/-- string(v) of bytes that the call owns. -/
theorem Ow.str {P : Program} {w : World} {base src dst e : TypeId} {v : Value} {bs : List UInt8} (hs : P.underlying src = some (.slice e)) (he : P.underlying e = some (.int .u8)) (hd : P.underlying dst = some .string)
    (h : Ow .u8 e base w v (nums bs)) : (convert src dst v).run P w = .ok (.string ⟨bs.toArray⟩) w := by
  rcases h.2 with ⟨rfl, h0⟩ | ⟨g, cap, cur, rfl, _, hg, h1, h2, h3, h4⟩
  · have : bs = [] := by rw [nums_len] at h0; exact List.eq_nil_of_length_eq_zero h0
    subst this
    exact run_convert_bytes_nil w src e hs he 0 0 dst hd
  · rw [nums_len]
    refine run_convert_bytes_back w src dst e ⟨g, 0, none⟩ cap bs hs he hd fun j hj => ?_
    have hc := World.ownsRow.cells h (g := g) rfl j (.int .u8 bs[j].toNat) (by simp [nums, hj])
    exact hc
/-- []byte(s). -/
theorem wpList_toBytes {P : Program} {w : World} {ops : Array Oper} {rest : List Oper} {o : Oper} {a : Act} {Q : Exit → Act → World → Prop} (hg : o.guard = none) (x : Operand) (src dst : TypeId)
    (ho : o.op = .convert src dst x) (s : ByteArray) (hx : a.eval x = .string s) (e : TypeId) (hs : P.underlying src = some .string) (hd : P.underlying dst = some (.slice e)) (he : P.underlying e = some (.int .u8)) (hz : s.size ≤ 9223372036854775807)
    (hK : ∀ w' c, SlI .u8 w' (some ⟨w.heap.size, 0, none⟩) s.size c (nums s.data.toList) → w.heap.size < w'.heap.size → w.grownBy w' none → wpList P ops Q rest (a.put o.dst (.slice (some ⟨w.heap.size, 0, none⟩) s.size c)) w') :
    wpList P ops Q (o :: rest) a w := by
  refine wpList_plain hg fun K hK' => ?_
  have hrun := run_bytes_of_string (P := P) w src dst e s hs hd he
  unfold Oper.wp
  simp only [execOp, ho, hx, Sem.run_bind, hrun, Result.andThen, Sem.run_pure, Oper.upon]
  have hgr : ∀ o, w.grownBy (w.drew.alloc o) none := fun o => ⟨rfl, rfl, rfl, by
    show w.heap.size ≤ (w.heap.push _).size
    rw [Array.size_push]; omega, fun k hk _ => Below.heap_alloc w.drew _ k hk⟩
  have hsz : ∀ o, w.heap.size < (w.drew.alloc o).heap.size := fun o => by
    show w.heap.size < (w.heap.push _).size
    rw [Array.size_push]; omega
  refine hK' _ _ (hK _ _ ?_ (hsz _) (hgr _))
  have hc1 := grownCap_ge w s.size 0 e
  have hc2 := grownCap_le_maxLen w s.size 0 e (by simpa [maxLen] using hz)
  refine ⟨by rw [nums_len, Lib.size_eq], hc1, by simpa [maxLen] using hc2, fun i hi => ⟨w.heap.size, 0, rfl, ?_⟩⟩
  rw [Nat.zero_add]
  have := World.cell?_alloc_mark w.drew (bytesRow s (grownCap w s.size 0 e)) e ((bytesRow s (grownCap w s.size 0 e)).size, (bytesRow s (grownCap w s.size 0 e)).size + 1) i
  rw [nums_getD _ i (by rw [← Lib.size_eq]; exact hi)]
  refine this.trans ?_
  unfold bytesRow
  rw [Array.getElem?_append_left (by simpa using hi)]
  have hi' : i < s.data.size := hi
  rw [Array.getElem?_map, Array.getElem?_eq_getElem hi']
  rfl
end Go.Tk
/- A vector's bits, counts and marks. Plain. -/
namespace Go.Tk
open Go Go.RowKit
def btB (d : List UInt8) (i : Nat) : Bool := (d.getD (i / 8) 0).toNat.testBit (i % 8)
def cntB (d : List UInt8) : Nat → Nat
  | 0 => 0
  | i + 1 => cntB d i + (if btB d i = true then 1 else 0)
theorem cnt_le (d : List UInt8) : ∀ i, cntB d i ≤ i
  | 0 => Nat.le_refl _
  | i + 1 => by have := cnt_le d i; simp only [cntB]; split <;> omega
theorem cnt_add (d : List UInt8) (i : Nat) : ∀ k, cntB d i ≤ cntB d (i + k) ∧ cntB d (i + k) ≤ cntB d i + k
  | 0 => ⟨Nat.le_refl _, Nat.le_refl _⟩
  | k + 1 => by
    have := cnt_add d i k
    rw [← Nat.add_assoc]
    simp only [cntB]
    split <;> omega
theorem cnt_mono (d : List UInt8) {i j : Nat} (h : i ≤ j) : cntB d i ≤ cntB d j := by
  have := (cnt_add d i (j - i)).1
  rwa [show i + (j - i) = j by omega] at this
/-- The counts ahead of the great places, since the great place ahead of the small ones; the places of the 0th, 512th, .. one. -/
def grL (d : List UInt8) : Nat → List Nat
  | 0 => []
  | i + 1 => grL d i ++ (if i % 2048 = 0 then [cntB d i] else [])
def smL (d : List UInt8) : Nat → List Nat
  | 0 => []
  | i + 1 => smL d i ++ (if i % 256 = 0 then [cntB d i - cntB d (i / 2048 * 2048)] else [])
def mkL (d : List UInt8) : Nat → List Nat
  | 0 => []
  | i + 1 => mkL d i ++ (if btB d i = true ∧ cntB d i % 512 = 0 then [i] else [])
theorem gr_len (d : List UInt8) : ∀ i, (grL d i).length = (i + 2047) / 2048
  | 0 => rfl
  | i + 1 => by
    have := gr_len d i
    simp only [grL, List.length_append]
    split
    · simp; omega
    · simp; omega
theorem sm_len (d : List UInt8) : ∀ i, (smL d i).length = (i + 255) / 256
  | 0 => rfl
  | i + 1 => by
    have := sm_len d i
    simp only [smL, List.length_append]
    split
    · simp; omega
    · simp; omega
theorem mk_len (d : List UInt8) : ∀ i, (mkL d i).length = (cntB d i + 511) / 512
  | 0 => by simp [mkL, cntB]
  | i + 1 => by
    have := mk_len d i
    simp only [mkL, cntB, List.length_append]
    by_cases hb : btB d i = true
    · by_cases hm : cntB d i % 512 = 0
      · rw [if_pos ⟨hb, hm⟩, if_pos hb]; simp; omega
      · rw [if_neg (fun h => hm h.2), if_pos hb]; simp; omega
    · rw [if_neg (fun h => hb h.1), if_neg hb]; simpa using this
theorem gr_get (d : List UInt8) (j i : Nat) (h : j * 2048 < i) : (grL d i)[j]? = some (cntB d (j * 2048)) := by
  induction i with
  | zero => omega
  | succ i ih =>
    have hl := gr_len d i
    simp only [grL]
    by_cases hj : j * 2048 < i
    · rw [List.getElem?_append_left (by omega)]; exact ih hj
    · have hi : i = j * 2048 := by omega
      rw [List.getElem?_append_right (by omega), if_pos (by omega), hl, hi]
      rw [show j - (j * 2048 + 2047) / 2048 = 0 by omega]
      rfl
theorem sm_get (d : List UInt8) (j i : Nat) (h : j * 256 < i) : (smL d i)[j]? = some (cntB d (j * 256) - cntB d (j / 8 * 2048)) := by
  induction i with
  | zero => omega
  | succ i ih =>
    have hl := sm_len d i
    simp only [smL]
    by_cases hj : j * 256 < i
    · rw [List.getElem?_append_left (by omega)]; exact ih hj
    · have hi : i = j * 256 := by omega
      rw [List.getElem?_append_right (by omega), if_pos (by omega), hl, hi]
      rw [show j - (j * 256 + 255) / 256 = 0 by omega, show j * 256 / 2048 * 2048 = j / 8 * 2048 by omega]
      rfl
theorem mk_get (d : List UInt8) : ∀ i v, v < i → btB d v = true → cntB d v % 512 = 0 → (mkL d i)[cntB d v / 512]? = some v
  | 0, v, h, _, _ => by omega
  | i + 1, v, h, hb, hm => by
    have hl := mk_len d i
    simp only [mkL]
    by_cases hv : v < i
    · have h1 := mk_get d i v hv hb hm
      have := (List.getElem?_eq_some_iff.1 h1).1
      rw [List.getElem?_append_left this]; exact h1
    · obtain rfl : v = i := by omega
      rw [List.getElem?_append_right (by omega), if_pos ⟨hb, hm⟩, hl]
      rw [show cntB d v / 512 - (cntB d v + 511) / 512 = 0 by omega]
      rfl
/-- The place of a one by its number. -/
theorem sel_ex (d : List UInt8) : ∀ n k, k < cntB d n → ∃ v, v < n ∧ btB d v = true ∧ cntB d v = k
  | 0, k, h => by simp [cntB] at h
  | n + 1, k, h => by
    simp only [cntB] at h
    by_cases h1 : k < cntB d n
    · obtain ⟨v, a, b, c⟩ := sel_ex d n k h1
      exact ⟨v, by omega, b, c⟩
    · split at h
      · rename_i hb
        exact ⟨n, by omega, hb, by omega⟩
      · omega
theorem mk_val (d : List UInt8) (n k : Nat) (h : k * 512 < cntB d n) : ∃ v, v < n ∧ btB d v = true ∧ cntB d v = k * 512 ∧ (mkL d n)[k]? = some v := by
  obtain ⟨v, a, b, c⟩ := sel_ex d n (k * 512) h
  have := mk_get d n v a b (by omega)
  rw [c, Nat.mul_div_cancel _ (by decide)] at this
  exact ⟨v, a, b, c, this⟩
/-- A number of so many bytes, its lowest first. -/
def leB (v : Nat) : Nat → List UInt8
  | 0 => []
  | k + 1 => UInt8.ofNat (v % 256) :: leB (v / 256) k
theorem le_len (v : Nat) : ∀ k, (leB v k).length = k
  | 0 => rfl
  | k + 1 => by simp [leB, le_len (v / 256) k]
theorem le_get (k : Nat) : ∀ (v i : Nat), i < k → (leB v k)[i]? = some (UInt8.ofNat (v / 256 ^ i % 256)) := by
  induction k with
  | zero => intro v i h; omega
  | succ k ih =>
    intro v i h
    cases i with
    | zero => simp [leB]
    | succ i =>
      simp only [leB, List.getElem?_cons_succ]
      rw [ih (v / 256) i (by omega), Nat.div_div_eq_div_mul, Nat.pow_succ, Nat.mul_comm 256]
def catB (k : Nat) (L : List Nat) : List UInt8 := L.flatMap fun v => leB v k
theorem cat_nil (k : Nat) : catB k [] = [] := rfl
theorem cat_snoc (k : Nat) (L : List Nat) (v : Nat) : catB k (L ++ [v]) = catB k L ++ leB v k := by simp [catB]
theorem cat_len (k : Nat) (L : List Nat) : (catB k L).length = k * L.length := by
  induction L with
  | nil => rfl
  | cons a L ih => simp only [catB, List.flatMap_cons, List.length_append, List.length_cons] at ih ⊢; rw [ih, le_len, Nat.mul_succ]; omega
theorem cat_get (k : Nat) : ∀ (L : List Nat) (j v i : Nat), L[j]? = some v → i < k → (catB k L)[k * j + i]? = (leB v k)[i]?
  | [], j, v, i, h, _ => by simp at h
  | a :: L, 0, v, i, h, hi => by
    obtain rfl : a = v := by simpa using h
    simp only [catB, List.flatMap_cons, Nat.mul_zero, Nat.zero_add]
    rw [List.getElem?_append_left (by rw [le_len]; exact hi)]
  | a :: L, j + 1, v, i, h, hi => by
    have h' : L[j]? = some v := by simpa using h
    have := cat_get k L j v i h' hi
    simp only [catB, List.flatMap_cons] at this ⊢
    rw [List.getElem?_append_right (by rw [le_len, Nat.mul_succ]; omega), le_len, ← this]
    congr 1
    rw [Nat.mul_succ]; omega
/-- A vector's bytes. -/
def whB (d : List UInt8) (n : Nat) : List UInt8 := leB n 4 ++ leB (cntB d n) 4 ++ d ++ catB 4 (grL d n) ++ catB 2 (smL d n) ++ catB 4 (mkL d n)
theorem wh_len (d : List UInt8) (n : Nat) : (whB d n).length = 8 + d.length + 4 * ((n + 2047) / 2048) + 2 * ((n + 255) / 256) + 4 * ((cntB d n + 511) / 512) := by
  simp only [whB, List.length_append, le_len, cat_len, gr_len, sm_len, mk_len]
/-- The bits behind the last one are noughts. -/
def padB (d : List UInt8) (n : Nat) : Bool := n % 8 == 0 || (d.getD (n / 8) 0).toNat / 2 ^ (n % 8) == 0
end Go.Tk
