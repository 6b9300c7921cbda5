/- Bytes: slices that the call owns, as bytes; append of a string; strings of bytes. -/
import Derived.Test.YtgajpekolamjbaaOwn
import Derived.Lib.AppendStr
import Derived.Lib.Strings
import Derived.Laws.IdiomStrings
import Derived.Laws.BytesArg
set_option linter.unusedVariables false
set_option linter.unusedSimpArgs false
namespace Go.Tk
open Go Go.RowKit
/-- Bytes as numbers. -/
def nums (l : List UInt8) : List Int := l.map fun b => (b.toNat : Int)
theorem nums_len (l : List UInt8) : (nums l).length = l.length := by simp [nums]
theorem nums_append (a b : List UInt8) : nums (a ++ b) = nums a ++ nums b := by simp [nums]
theorem nums_take (a : List UInt8) (n : Nat) : (nums a).take n = nums (a.take n) := by simp [nums, List.map_take]
theorem nums_drop (a : List UInt8) (n : Nat) : (nums a).drop n = nums (a.drop n) := by simp [nums, List.map_drop]
theorem nums_getD (l : List UInt8) (i : Nat) (h : i < l.length) : (nums l).getD i 0 = (l[i].toNat : Int) := by simp [nums, h]
theorem nums_cells (l : List UInt8) : (nums l).map (Value.int .u8) = l.map fun b => Value.int .u8 b.toNat := by simp [nums]
theorem nums_inj {a b : List UInt8} (h : nums a = nums b) : a = b := by
  have : ∀ (a b : List UInt8), nums a = nums b → a = b := by
    intro a
    induction a with
    | nil => intro b h; cases b with
      | nil => rfl
      | cons y b => simp [nums] at h
    | cons x a ih => intro b h; cases b with
      | nil => simp [nums] at h
      | cons y b =>
        simp [nums] at h
        obtain ⟨h1, h2⟩ := h
        have h3 : x = y := UInt8.toNat.inj (by omega)
        rw [h3, ih b (by simpa [nums] using h2)]
  exact this a b h
theorem strCells_nums (s : ByteArray) : Lib.strCells s = (nums s.data.toList).map (Value.int .u8) := by rw [nums_cells]; rfl
theorem byte_lit_ne {a : UInt8} {x : Int} (b : UInt8) (hb : x = (b.toNat : Int)) (h : a ≠ b) : ((a.toNat : Int) == x) = false := by
  rw [beq_eq_false_iff_ne]; intro e; exact h (UInt8.toNat.inj (by omega))
theorem byte_lit_eq {a : UInt8} {x : Int} (b : UInt8) (hb : x = (b.toNat : Int)) (h : a = b) : ((a.toNat : Int) == x) = true := by
  rw [beq_iff_eq, hb, h]
/-- append(v, s...), s a string, v the call's own bytes. -/
theorem wpList_appS {P : Program} {w : World} {ops : Array Oper} {rest : List Oper} {o : Oper} {a : Act} {Q : Exit → Act → World → Prop} (hgd : o.guard = none) (sl x : Operand) (t u : TypeId)
    (ho : o.op = .call { callee := .builtin .append, args := #[sl, x], argTypes := #[t, u] })
    (base : Nat) (e : TypeId) (ht : P.underlying t = some (.slice e)) (hu : P.underlying u = some .string) (hinfo : (P.info? e).map (fun i => (i.zero, i.size, i.bytes)) = some (some (.int .u8 0), 1, 1))
    (v : Value) (bs : List UInt8) (hs : a.eval sl = v) (hown : Ow .u8 e base w v (nums bs)) (s : ByteArray) (hx : a.eval x = .string s)
    (hbytes : bs.length + s.size ≤ 140737488355328) (hbase : base ≤ w.heap.size)
    (h : ∀ v' w', Ow .u8 e base w' v' (nums (bs ++ s.data.toList)) → w.grownBy w' v.ownBlock → wpList P ops Q rest (a.put o.dst v') w') : wpList P ops Q (o :: rest) a w := by
  obtain ⟨i, hi, hz0, hz1, hz2⟩ := info_parts hinfo
  refine Lib.wpList_append_own_string (w := w) hgd sl x t u ho base e i ht hu hi hz0 hz1 hz2 v (nums bs).length _ hs hown s hx (by simp only [maxLen, nums_len]; omega) (by rw [nums_len]; omega) hbase ?_
  intro v' w' h1 h2 _
  refine h v' w' ?_ h2
  unfold Ow
  rw [nums_append, List.length_append, List.map_append]
  rw [strCells_nums] at h1
  have hl : (nums s.data.toList).length = s.size := by rw [nums_len, Lib.size_eq]
  rw [hl]
  exact h1
/-- A shorter front of an owned row is owned. -/
theorem Ow.front {k : IntKind} {e : TypeId} {base : Nat} {w : World} {a : Option Addr} {n c : Nat} {zs : List Int} (h : Ow k e base w (.slice a n c) zs) (m : Nat) (hm : m ≤ zs.length) : Ow k e base w (.slice a m c) (zs.take m) := by
  have hlen : (zs.take m).length = m := by simp; omega
  unfold Ow at h ⊢
  refine ⟨by simp, ?_⟩
  rcases h.2 with ⟨hv, hz⟩ | ⟨g, cap, cur, hv, hb, hg, h1, h2, h3, h4⟩
  · simp at hv hz
    obtain ⟨rfl, rfl, rfl⟩ := hv
    left
    subst hz
    have : m = 0 := by simpa using hm
    subst this
    simp
  · simp at hv
    obtain ⟨rfl, hn, rfl⟩ := hv
    right
    refine ⟨g, c, cur, by rw [hlen], hb, hg, by omega, h2, h3, ?_⟩
    rw [hlen, Nat.mul_one, List.map_take]
    rw [Nat.mul_one] at h4
    rw [← h4, List.take_take, Nat.min_eq_left hm]
/-- string(v) of bytes that the call owns. -/
theorem Ow.str {P : Program} {w : World} {base src dst e : TypeId} {v : Value} {bs : List UInt8} (hs : P.underlying src = some (.slice e)) (he : P.underlying e = some (.int .u8)) (hd : P.underlying dst = some .string)
    (h : Ow .u8 e base w v (nums bs)) : (convert src dst v).run P w = .ok (.string ⟨bs.toArray⟩) w := by
  rcases h.2 with ⟨rfl, h0⟩ | ⟨g, cap, cur, rfl, _, hg, h1, h2, h3, h4⟩
  · have : bs = [] := by rw [nums_len] at h0; exact List.eq_nil_of_length_eq_zero h0
    subst this
    exact run_convert_bytes_nil w src e hs he 0 0 dst hd
  · rw [nums_len]
    refine run_convert_bytes_back w src dst e ⟨g, 0, none⟩ cap bs hs he hd fun j hj => ?_
    have hc := World.ownsRow.cells h (g := g) rfl j (.int .u8 bs[j].toNat) (by simp [nums, hj])
    exact hc
/-- []byte(s). -/
theorem wpList_toBytes {P : Program} {w : World} {ops : Array Oper} {rest : List Oper} {o : Oper} {a : Act} {Q : Exit → Act → World → Prop} (hg : o.guard = none) (x : Operand) (src dst : TypeId)
    (ho : o.op = .convert src dst x) (s : ByteArray) (hx : a.eval x = .string s) (e : TypeId) (hs : P.underlying src = some .string) (hd : P.underlying dst = some (.slice e)) (he : P.underlying e = some (.int .u8)) (hz : s.size ≤ 9223372036854775807)
    (hK : ∀ w' c, SlI .u8 w' (some ⟨w.heap.size, 0, none⟩) s.size c (nums s.data.toList) → w.heap.size < w'.heap.size → w.grownBy w' none → wpList P ops Q rest (a.put o.dst (.slice (some ⟨w.heap.size, 0, none⟩) s.size c)) w') :
    wpList P ops Q (o :: rest) a w := by
  refine wpList_plain hg fun K hK' => ?_
  have hrun := run_bytes_of_string (P := P) w src dst e s hs hd he
  unfold Oper.wp
  simp only [execOp, ho, hx, Sem.run_bind, hrun, Result.andThen, Sem.run_pure, Oper.upon]
  have hgr : ∀ o, w.grownBy (w.drew.alloc o) none := fun o => ⟨rfl, rfl, rfl, by
    show w.heap.size ≤ (w.heap.push _).size
    rw [Array.size_push]; omega, fun k hk _ => Below.heap_alloc w.drew _ k hk⟩
  have hsz : ∀ o, w.heap.size < (w.drew.alloc o).heap.size := fun o => by
    show w.heap.size < (w.heap.push _).size
    rw [Array.size_push]; omega
  refine hK' _ _ (hK _ _ ?_ (hsz _) (hgr _))
  have hc1 := grownCap_ge w s.size 0 e
  have hc2 := grownCap_le_maxLen w s.size 0 e (by simpa [maxLen] using hz)
  refine ⟨by rw [nums_len, Lib.size_eq], hc1, by simpa [maxLen] using hc2, fun i hi => ⟨w.heap.size, 0, rfl, ?_⟩⟩
  rw [Nat.zero_add]
  have := World.cell?_alloc_mark w.drew (bytesRow s (grownCap w s.size 0 e)) e ((bytesRow s (grownCap w s.size 0 e)).size, (bytesRow s (grownCap w s.size 0 e)).size + 1) i
  rw [nums_getD _ i (by rw [← Lib.size_eq]; exact hi)]
  refine this.trans ?_
  unfold bytesRow
  rw [Array.getElem?_append_left (by simpa using hi)]
  have hi' : i < s.data.size := hi
  rw [Array.getElem?_map, Array.getElem?_eq_getElem hi']
  rfl
end Go.Tk
