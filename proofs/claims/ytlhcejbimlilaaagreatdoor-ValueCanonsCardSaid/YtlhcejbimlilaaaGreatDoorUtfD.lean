/- Bytes UtfD, laid as one. -/
import Derived.Test.YtlhcejbimlilaaaGreatDoorOwn
import Derived.Lib.AppendStr
import Derived.Lib.Strings
import Derived.Laws.IdiomStrings
import Derived.Laws.BytesArg
set_option linter.unusedVariables false
set_option linter.unusedSimpArgs false
/- Bytes: slices that the call owns, as bytes; append of a string; strings of bytes. -/
namespace Go.Tk
open Go Go.RowKit
/-- Bytes as numbers. -/
def nums (l : List UInt8) : List Int := l.map fun b => (b.toNat : Int)
theorem nums_len (l : List UInt8) : (nums l).length = l.length := by simp [nums]
theorem nums_append (a b : List UInt8) : nums (a ++ b) = nums a ++ nums b := by simp [nums]
theorem nums_take (a : List UInt8) (n : Nat) : (nums a).take n = nums (a.take n) := by simp [nums, List.map_take]
theorem nums_drop (a : List UInt8) (n : Nat) : (nums a).drop n = nums (a.drop n) := by simp [nums, List.map_drop]
theorem nums_getD (l : List UInt8) (i : Nat) (h : i < l.length) : (nums l).getD i 0 = (l[i].toNat : Int) := by simp [nums, h]
theorem nums_cells (l : List UInt8) : (nums l).map (Value.int .u8) = l.map fun b => Value.int .u8 b.toNat := by simp [nums]
theorem nums_inj {a b : List UInt8} (h : nums a = nums b) : a = b := by
  have : ∀ (a b : List UInt8), nums a = nums b → a = b := by
    intro a
    induction a with
    | nil => intro b h; cases b with
      | nil => rfl
      | cons y b => simp [nums] at h
    | cons x a ih => intro b h; cases b with
      | nil => simp [nums] at h
      | cons y b =>
        simp [nums] at h
        obtain ⟨h1, h2⟩ := h
        have h3 : x = y := UInt8.toNat.inj (by omega)
        rw [h3, ih b (by simpa [nums] using h2)]
  exact this a b h
theorem strCells_nums (s : ByteArray) : Lib.strCells s = (nums s.data.toList).map (Value.int .u8) := by rw [nums_cells]; rfl
theorem byte_lit_ne {a : UInt8} {x : Int} (b : UInt8) (hb : x = (b.toNat : Int)) (h : a ≠ b) : ((a.toNat : Int) == x) = false := by
  rw [beq_eq_false_iff_ne]; intro e; exact h (UInt8.toNat.inj (by omega))
theorem byte_lit_eq {a : UInt8} {x : Int} (b : UInt8) (hb : x = (b.toNat : Int)) (h : a = b) : ((a.toNat : Int) == x) = true := by
  rw [beq_iff_eq, hb, h]
/-- append(v, s...), s a string, v the call's own bytes. -/
theorem wpList_appS {P : Program} {w : World} {ops : Array Oper} {rest : List Oper} {o : Oper} {a : Act} {Q : Exit → Act → World → Prop} (hgd : o.guard = none) (sl x : Operand) (t u : TypeId)
    (ho : o.op = .call { callee := .builtin .append, args := #[sl, x], argTypes := #[t, u] })
    (base : Nat) (e : TypeId) (ht : P.underlying t = some (.slice e)) (hu : P.underlying u = some .string) (hinfo : (P.info? e).map (fun i => (i.zero, i.size, i.bytes)) = some (some (.int .u8 0), 1, 1))
    (v : Value) (bs : List UInt8) (hs : a.eval sl = v) (hown : Ow .u8 e base w v (nums bs)) (s : ByteArray) (hx : a.eval x = .string s)
    (hbytes : bs.length + s.size ≤ 140737488355328) (hbase : base ≤ w.heap.size)
    (h : ∀ v' w', Ow .u8 e base w' v' (nums (bs ++ s.data.toList)) → w.grownBy w' v.ownBlock → wpList P ops Q rest (a.put o.dst v') w') : wpList P ops Q (o :: rest) a w := by
  obtain ⟨i, hi, hz0, hz1, hz2⟩ := info_parts hinfo
  refine Lib.wpList_append_own_string (w := w) hgd sl x t u ho base e i ht hu hi hz0 hz1 hz2 v (nums bs).length _ hs hown s hx (by simp only [maxLen, nums_len]; omega) (by rw [nums_len]; omega) hbase ?_
  intro v' w' h1 h2 _
  refine h v' w' ?_ h2
  unfold Ow
  rw [nums_append, List.length_append, List.map_append]
  rw [strCells_nums] at h1
  have hl : (nums s.data.toList).length = s.size := by rw [nums_len, Lib.size_eq]
  rw [hl]
  exact h1
/-- A shorter front of an owned row is owned. -/
theorem Ow.front {k : IntKind} {e : TypeId} {base : Nat} {w : World} {a : Option Addr} {n c : Nat} {zs : List Int} (h : Ow k e base w (.slice a n c) zs) (m : Nat) (hm : m ≤ zs.length) : Ow k e base w (.slice a m c) (zs.take m) := by
  have hlen : (zs.take m).length = m := by simp; omega
  unfold Ow at h ⊢
  refine ⟨by simp, ?_⟩
  rcases h.2 with ⟨hv, hz⟩ | ⟨g, cap, cur, hv, hb, hg, h1, h2, h3, h4⟩
  · simp at hv hz
    obtain ⟨rfl, rfl, rfl⟩ := hv
    left
    subst hz
    have : m = 0 := by simpa using hm
    subst this
    simp
  · simp at hv
    obtain ⟨rfl, hn, rfl⟩ := hv
    right
    refine ⟨g, c, cur, by rw [hlen], hb, hg, by omega, h2, h3, ?_⟩
    rw [hlen, Nat.mul_one, List.map_take]
    rw [Nat.mul_one] at h4
    rw [← h4, List.take_take, Nat.min_eq_left hm]
/-- string(v) of bytes that the call owns. -/
theorem Ow.str {P : Program} {w : World} {base src dst e : TypeId} {v : Value} {bs : List UInt8} (hs : P.underlying src = some (.slice e)) (he : P.underlying e = some (.int .u8)) (hd : P.underlying dst = some .string)
    (h : Ow .u8 e base w v (nums bs)) : (convert src dst v).run P w = .ok (.string ⟨bs.toArray⟩) w := by
  rcases h.2 with ⟨rfl, h0⟩ | ⟨g, cap, cur, rfl, _, hg, h1, h2, h3, h4⟩
  · have : bs = [] := by rw [nums_len] at h0; exact List.eq_nil_of_length_eq_zero h0
    subst this
    exact run_convert_bytes_nil w src e hs he 0 0 dst hd
  · rw [nums_len]
    refine run_convert_bytes_back w src dst e ⟨g, 0, none⟩ cap bs hs he hd fun j hj => ?_
    have hc := World.ownsRow.cells h (g := g) rfl j (.int .u8 bs[j].toNat) (by simp [nums, hj])
    exact hc
/-- []byte(s). -/
theorem wpList_toBytes {P : Program} {w : World} {ops : Array Oper} {rest : List Oper} {o : Oper} {a : Act} {Q : Exit → Act → World → Prop} (hg : o.guard = none) (x : Operand) (src dst : TypeId)
    (ho : o.op = .convert src dst x) (s : ByteArray) (hx : a.eval x = .string s) (e : TypeId) (hs : P.underlying src = some .string) (hd : P.underlying dst = some (.slice e)) (he : P.underlying e = some (.int .u8)) (hz : s.size ≤ 9223372036854775807)
    (hK : ∀ w' c, SlI .u8 w' (some ⟨w.heap.size, 0, none⟩) s.size c (nums s.data.toList) → w.heap.size < w'.heap.size → w.grownBy w' none → wpList P ops Q rest (a.put o.dst (.slice (some ⟨w.heap.size, 0, none⟩) s.size c)) w') :
    wpList P ops Q (o :: rest) a w := by
  refine wpList_plain hg fun K hK' => ?_
  have hrun := run_bytes_of_string (P := P) w src dst e s hs hd he
  unfold Oper.wp
  simp only [execOp, ho, hx, Sem.run_bind, hrun, Result.andThen, Sem.run_pure, Oper.upon]
  have hgr : ∀ o, w.grownBy (w.drew.alloc o) none := fun o => ⟨rfl, rfl, rfl, by
    show w.heap.size ≤ (w.heap.push _).size
    rw [Array.size_push]; omega, fun k hk _ => Below.heap_alloc w.drew _ k hk⟩
  have hsz : ∀ o, w.heap.size < (w.drew.alloc o).heap.size := fun o => by
    show w.heap.size < (w.heap.push _).size
    rw [Array.size_push]; omega
  refine hK' _ _ (hK _ _ ?_ (hsz _) (hgr _))
  have hc1 := grownCap_ge w s.size 0 e
  have hc2 := grownCap_le_maxLen w s.size 0 e (by simpa [maxLen] using hz)
  refine ⟨by rw [nums_len, Lib.size_eq], hc1, by simpa [maxLen] using hc2, fun i hi => ⟨w.heap.size, 0, rfl, ?_⟩⟩
  rw [Nat.zero_add]
  have := World.cell?_alloc_mark w.drew (bytesRow s (grownCap w s.size 0 e)) e ((bytesRow s (grownCap w s.size 0 e)).size, (bytesRow s (grownCap w s.size 0 e)).size + 1) i
  rw [nums_getD _ i (by rw [← Lib.size_eq]; exact hi)]
  refine this.trans ?_
  unfold bytesRow
  rw [Array.getElem?_append_left (by simpa using hi)]
  have hi' : i < s.data.size := hi
  rw [Array.getElem?_map, Array.getElem?_eq_getElem hi']
  rfl
end Go.Tk
/- Scalars and their bytes, read and written: plain. -/
namespace Go.Tk
open Go Go.RowKit
/-- A scalar's bytes. -/
def encZ (r : Int) : List Int :=
  if r < 128 then [r] else if r < 2048 then [192 + r / 64, 128 + r % 64] else if r < 65536 then [224 + r / 4096, 128 + r / 64 % 64, 128 + r % 64] else [240 + r / 262144, 128 + r / 4096 % 64, 128 + r / 64 % 64, 128 + r % 64]
theorem encZ1 {r : Int} (a : r < 128) : encZ r = [r] := by unfold encZ; rw [if_pos a]
theorem encZ2 {r : Int} (a : ¬ r < 128) (b : r < 2048) : encZ r = [192 + r / 64, 128 + r % 64] := by unfold encZ; rw [if_neg a, if_pos b]
theorem encZ3 {r : Int} (a : ¬ r < 128) (b : ¬ r < 2048) (c : r < 65536) : encZ r = [224 + r / 4096, 128 + r / 64 % 64, 128 + r % 64] := by unfold encZ; rw [if_neg a, if_neg b, if_pos c]
theorem encZ4 {r : Int} (a : ¬ r < 128) (b : ¬ r < 2048) (c : ¬ r < 65536) : encZ r = [240 + r / 262144, 128 + r / 4096 % 64, 128 + r / 64 % 64, 128 + r % 64] := by unfold encZ; rw [if_neg a, if_neg b, if_neg c]
theorem encZ_len (r : Int) : 1 ≤ (encZ r).length ∧ (encZ r).length ≤ 4 := by
  unfold encZ; split; · simp
  split; · simp
  split <;> simp
/-- Is a number a scalar? -/
def scalarB (r : Int) : Bool := decide (0 ≤ r ∧ r ≤ 1114111 ∧ (r < 55296 ∨ 57343 < r))
theorem scalarB_iff (r : Int) : scalarB r = true ↔ 0 ≤ r ∧ r ≤ 1114111 ∧ (r < 55296 ∨ 57343 < r) := by simp [scalarB]
/-- How many bytes begin with this one; its own bits. -/
def ldN (b : UInt8) : Nat := if b.toNat < 128 then 1 else if b.toNat < 192 then 0 else if b.toNat < 224 then 2 else if b.toNat < 240 then 3 else if b.toNat < 248 then 4 else 0
def ldR (b : UInt8) : Int := if b.toNat < 128 then (b.toNat : Int) else if b.toNat < 192 then 0 else if b.toNat < 224 then ((b.toNat % 32 : Nat) : Int) else if b.toNat < 240 then ((b.toNat % 16 : Nat) : Int) else if b.toNat < 248 then ((b.toNat % 8 : Nat) : Int) else 0
/-- The bits of the bytes behind the first. -/
def contR : List UInt8 → Int → Option Int
  | [], r => some r
  | c :: t, r => if c.toNat / 64 = 2 then contR t (r * 64 + ((c.toNat % 64 : Nat) : Int)) else none
def leastI (n : Nat) : Int := if n = 2 then 128 else if n = 3 then 2048 else if n = 4 then 65536 else 0
def dec : List UInt8 → Int × Nat
  | [] => (0, 0)
  | b :: t => if ldN b = 0 ∨ t.length + 1 < ldN b then (0, 0) else
    match contR (t.take (ldN b - 1)) (ldR b) with
    | none => (0, 0)
    | some r => if r < leastI (ldN b) ∨ scalarB r = false then (0, 0) else (r, ldN b)
theorem ldN_le (b : UInt8) : ldN b ≤ 4 := by
  unfold ldN; repeat' split
  all_goals omega
theorem ldR_bd (b : UInt8) : 0 ≤ ldR b ∧ ldR b < 256 := by
  unfold ldR; repeat' split
  all_goals omega
/-- Reading what is written. -/
theorem dec_enc (l : List UInt8) (r : Int) (hr : scalarB r = true) (hp : encZ r <+: nums l) : dec l = (r, (encZ r).length) := by
  obtain ⟨s0, s1, s2⟩ := (scalarB_iff r).1 hr
  obtain ⟨t, ht⟩ := hp
  by_cases a : r < 128
  · rw [encZ1 a] at ht ⊢
    cases l with
    | nil => simp [nums] at ht
    | cons x l =>
      simp [nums] at ht
      obtain ⟨h1, h2⟩ := ht
      have e1 : ldN x = 1 := by unfold ldN; rw [if_pos (by omega)]
      have e2 : ldR x = r := by unfold ldR; rw [if_pos (by omega)]; omega
      simp [dec, e1, e2, contR, leastI, hr]
      omega
  by_cases b : r < 2048
  · rw [encZ2 a b] at ht ⊢
    cases l with
    | nil => simp [nums] at ht
    | cons x l =>
      cases l with
      | nil => simp [nums] at ht
      | cons y l =>
        simp [nums] at ht
        obtain ⟨h1, h2, h3⟩ := ht
        have e1 : ldN x = 2 := by unfold ldN; rw [if_neg (by omega), if_neg (by omega), if_pos (by omega)]
        have e2 : ldR x = r / 64 := by unfold ldR; rw [if_neg (by omega), if_neg (by omega), if_pos (by omega)]; omega
        have e3 : y.toNat / 64 = 2 := by omega
        have e4 : r / 64 * 64 + ((y.toNat % 64 : Nat) : Int) = r := by omega
        simp only [dec, e1, e2]
        rw [if_neg (by simp)]
        simp only [Nat.reduceSub, List.take_succ_cons, List.take_zero, contR, e3, if_true, e4]
        rw [if_neg (by simp [hr, leastI]; omega)]
        rfl
  by_cases c : r < 65536
  · rw [encZ3 a b c] at ht ⊢
    cases l with
    | nil => simp [nums] at ht
    | cons x l =>
      cases l with
      | nil => simp [nums] at ht
      | cons y l =>
        cases l with
        | nil => simp [nums] at ht
        | cons z l =>
          simp [nums] at ht
          obtain ⟨h1, h2, h3, h4⟩ := ht
          have e1 : ldN x = 3 := by unfold ldN; rw [if_neg (by omega), if_neg (by omega), if_neg (by omega), if_pos (by omega)]
          have e2 : ldR x = r / 4096 := by unfold ldR; rw [if_neg (by omega), if_neg (by omega), if_neg (by omega), if_pos (by omega)]; omega
          have e3 : y.toNat / 64 = 2 := by omega
          have e5 : z.toNat / 64 = 2 := by omega
          have e4 : (r / 4096 * 64 + ((y.toNat % 64 : Nat) : Int)) * 64 + ((z.toNat % 64 : Nat) : Int) = r := by omega
          simp only [dec, e1, e2]
          rw [if_neg (by simp)]
          simp only [Nat.reduceSub, List.take_succ_cons, List.take_zero, contR, e3, e5, if_true, e4]
          rw [if_neg (by simp [hr, leastI]; omega)]
          rfl
  · rw [encZ4 a b c] at ht ⊢
    cases l with
    | nil => simp [nums] at ht
    | cons x l =>
      cases l with
      | nil => simp [nums] at ht
      | cons y l =>
        cases l with
        | nil => simp [nums] at ht
        | cons z l =>
          cases l with
          | nil => simp [nums] at ht
          | cons v l =>
            simp [nums] at ht
            obtain ⟨h1, h2, h3, h4, h5⟩ := ht
            have e1 : ldN x = 4 := by unfold ldN; rw [if_neg (by omega), if_neg (by omega), if_neg (by omega), if_neg (by omega), if_pos (by omega)]
            have e2 : ldR x = r / 262144 := by unfold ldR; rw [if_neg (by omega), if_neg (by omega), if_neg (by omega), if_neg (by omega), if_pos (by omega)]; omega
            have e3 : y.toNat / 64 = 2 := by omega
            have e5 : z.toNat / 64 = 2 := by omega
            have e6 : v.toNat / 64 = 2 := by omega
            have e4 : ((r / 262144 * 64 + ((y.toNat % 64 : Nat) : Int)) * 64 + ((z.toNat % 64 : Nat) : Int)) * 64 + ((v.toNat % 64 : Nat) : Int) = r := by omega
            simp only [dec, e1, e2]
            rw [if_neg (by simp)]
            simp only [Nat.reduceSub, List.take_succ_cons, List.take_zero, contR, e3, e5, e6, if_true, e4]
            rw [if_neg (by simp [hr, leastI]; omega)]
            rfl
theorem ldN_cases (b : UInt8) : (ldN b = 0) ∨ (ldN b = 1 ∧ b.toNat < 128 ∧ ldR b = b.toNat) ∨ (ldN b = 2 ∧ 192 ≤ b.toNat ∧ b.toNat < 224 ∧ ldR b = (b.toNat : Int) - 192) ∨ (ldN b = 3 ∧ 224 ≤ b.toNat ∧ b.toNat < 240 ∧ ldR b = (b.toNat : Int) - 224) ∨
    (ldN b = 4 ∧ 240 ≤ b.toNat ∧ b.toNat < 248 ∧ ldR b = (b.toNat : Int) - 240) := by
  by_cases h1 : b.toNat < 128
  · exact .inr (.inl ⟨by unfold ldN; rw [if_pos h1], h1, by unfold ldR; rw [if_pos h1]⟩)
  by_cases h2 : b.toNat < 192
  · exact .inl (by unfold ldN; rw [if_neg h1, if_pos h2])
  by_cases h3 : b.toNat < 224
  · exact .inr (.inr (.inl ⟨by unfold ldN; rw [if_neg h1, if_neg h2, if_pos h3], by omega, h3, by unfold ldR; rw [if_neg h1, if_neg h2, if_pos h3]; omega⟩))
  by_cases h4 : b.toNat < 240
  · exact .inr (.inr (.inr (.inl ⟨by unfold ldN; rw [if_neg h1, if_neg h2, if_neg h3, if_pos h4], by omega, h4, by unfold ldR; rw [if_neg h1, if_neg h2, if_neg h3, if_pos h4]; omega⟩)))
  by_cases h5 : b.toNat < 248
  · exact .inr (.inr (.inr (.inr ⟨by unfold ldN; rw [if_neg h1, if_neg h2, if_neg h3, if_neg h4, if_pos h5], by omega, h5, by unfold ldR; rw [if_neg h1, if_neg h2, if_neg h3, if_neg h4, if_pos h5]; omega⟩)))
  · exact .inl (by unfold ldN; rw [if_neg h1, if_neg h2, if_neg h3, if_neg h4, if_neg h5])
theorem contR_cons {c : UInt8} {t : List UInt8} {r x : Int} (h : contR (c :: t) r = some x) : 128 ≤ c.toNat ∧ c.toNat < 192 ∧ contR t (r * 64 + (c.toNat : Int) - 128) = some x := by
  simp only [contR] at h
  split at h
  · refine ⟨by omega, by omega, ?_⟩
    rw [← h]
    congr 1
    omega
  · cases h
/-- What is read was written. -/
theorem dec_yes {l : List UInt8} {r : Int} {n : Nat} (h : dec l = (r, n)) (hn : n ≠ 0) : scalarB r = true ∧ encZ r = nums (l.take n) ∧ n ≤ l.length := by
  cases l with
  | nil => simp [dec] at h; omega
  | cons b t =>
    simp only [dec] at h
    split at h
    · simp at h; omega
    · rename_i h0
      have hl : ldN b ≤ t.length + 1 := by omega
      split at h
      · simp at h; omega
      · rename_i x hx
        split at h
        · simp at h; omega
        · rename_i h1
          simp only [Prod.mk.injEq] at h
          obtain ⟨rfl, rfl⟩ := h
          have hs : scalarB x = true := by
            cases e : scalarB x
            · exact absurd (.inr e) h1
            · rfl
          have hle : ¬ x < leastI (ldN b) := fun e => h1 (.inl e)
          obtain ⟨s0, s1, s2⟩ := (scalarB_iff x).1 hs
          refine ⟨hs, ?_, by simpa using hl⟩
          rcases ldN_cases b with c | ⟨c, c1, c2⟩ | ⟨c, c1, c2, c3⟩ | ⟨c, c1, c2, c3⟩ | ⟨c, c1, c2, c3⟩
          · omega
          · rw [c] at hx ⊢
            simp [contR] at hx
            subst hx
            rw [c2, encZ1 (by omega)]
            simp [nums]
          · rw [c] at hx hle hl ⊢
            simp [leastI] at hle
            cases t with
            | nil => simp at hl
            | cons y t =>
              simp only [Nat.reduceSub, List.take_succ_cons, List.take_zero] at hx ⊢
              obtain ⟨a1, a2, hx⟩ := contR_cons hx
              simp only [contR, Option.some.injEq] at hx
              rw [encZ2 (by omega) (by omega)]
              simp [nums]
              omega
          · rw [c] at hx hle hl ⊢
            simp [leastI] at hle
            cases t with
            | nil => simp at hl
            | cons y t =>
              cases t with
              | nil => simp at hl
              | cons z t =>
                simp only [Nat.reduceSub, List.take_succ_cons, List.take_zero] at hx ⊢
                obtain ⟨a1, a2, hx⟩ := contR_cons hx
                obtain ⟨a3, a4, hx⟩ := contR_cons hx
                simp only [contR, Option.some.injEq] at hx
                rw [encZ3 (by omega) (by omega) (by omega)]
                simp [nums]
                omega
          · rw [c] at hx hle hl ⊢
            simp [leastI] at hle
            cases t with
            | nil => simp at hl
            | cons y t =>
              cases t with
              | nil => simp at hl
              | cons z t =>
                cases t with
                | nil => simp at hl
                | cons v t =>
                  simp only [Nat.reduceSub, List.take_succ_cons, List.take_zero] at hx ⊢
                  obtain ⟨a1, a2, hx⟩ := contR_cons hx
                  obtain ⟨a3, a4, hx⟩ := contR_cons hx
                  obtain ⟨a5, a6, hx⟩ := contR_cons hx
                  simp only [contR, Option.some.injEq] at hx
                  rw [encZ4 (by omega) (by omega) (by omega)]
                  simp [nums]
                  omega
theorem dec_zero {l : List UInt8} (h : (dec l).2 = 0) : dec l = (0, 0) := by
  cases l with
  | nil => rfl
  | cons b t =>
    simp only [dec] at h ⊢
    split
    · rfl
    · rename_i h0
      rw [if_neg h0] at h
      split
      · rfl
      · rename_i x hx
        rw [hx] at h
        simp only at h
        split
        · rfl
        · rename_i h1
          rw [if_neg h1] at h
          exact absurd h (by simp only; omega)
theorem dec_le (l : List UInt8) : (dec l).2 ≤ 4 ∧ (dec l).2 ≤ l.length := by
  by_cases h : (dec l).2 = 0
  · omega
  · obtain ⟨h1, h2, h3⟩ := dec_yes (l := l) (r := (dec l).1) (n := (dec l).2) rfl h
    have := encZ_len (dec l).1
    have e : (encZ (dec l).1).length = (dec l).2 := by rw [h2, nums_len, List.length_take]; omega
    omega
/-- As the document reads: the first number of bytes that are some scalar's. -/
theorem dec_take (l : List UInt8) (n : Nat) (h1 : 1 ≤ n) (h2 : n ≤ l.length) : (dec (l.take n)).2 = n ↔ (dec l).2 = n := by
  have hl : (l.take n).length = n := by simp; omega
  constructor
  · intro h
    obtain ⟨a, b, c⟩ := dec_yes (l := l.take n) (r := (dec (l.take n)).1) (n := n) (Prod.ext rfl h) (by omega)
    rw [List.take_take, Nat.min_self] at b
    have := dec_enc l _ a (by rw [b]; exact ⟨nums (l.drop n), by rw [← nums_append, List.take_append_drop]⟩)
    rw [this, b, nums_len, hl]
  · intro h
    obtain ⟨a, b, c⟩ := dec_yes (l := l) (r := (dec l).1) (n := n) (Prod.ext rfl h) (by omega)
    have := dec_enc (l.take n) _ a (by rw [b]; exact List.prefix_refl _)
    rw [this, b, nums_len, hl]
theorem dec_take_fst (l : List UInt8) (n : Nat) (h1 : 1 ≤ n) (h2 : n ≤ l.length) (h : (dec l).2 = n) : dec (l.take n) = dec l := by
  have hl : (l.take n).length = n := by simp; omega
  obtain ⟨a, b, c⟩ := dec_yes (l := l) (r := (dec l).1) (n := n) (Prod.ext rfl h) (by omega)
  rw [dec_enc (l.take n) _ a (by rw [b]; exact List.prefix_refl _), b, nums_len, hl, ← h]
/-- The document's guess. -/
def gBase (n : Nat) : Int := if n = 2 then 192 else if n = 3 then 224 else if n = 4 then 240 else 0
def gFold : List UInt8 → Int → Int
  | [], r => r
  | c :: t, r => gFold t (r * 64 + (c.toNat : Int) - 128)
def gnum : List UInt8 → Int
  | [] => 0
  | b :: t => gFold t ((b.toNat : Int) - gBase (t.length + 1))
theorem gnum_enc {b : List UInt8} {r : Int} (hr : scalarB r = true) (h : encZ r = nums b) : gnum b = r := by
  obtain ⟨s0, s1, s2⟩ := (scalarB_iff r).1 hr
  have hl : b.length = (encZ r).length := by rw [h, nums_len]
  by_cases a : r < 128
  · rw [encZ1 a] at h hl
    match b, hl with
    | [x], _ =>
      simp [nums] at h
      simp [gnum, gFold, gBase, h]
  by_cases c : r < 2048
  · rw [encZ2 a c] at h hl
    match b, hl with
    | [x, y], _ =>
      simp [nums] at h
      simp [gnum, gFold, gBase]
      omega
  by_cases d : r < 65536
  · rw [encZ3 a c d] at h hl
    match b, hl with
    | [x, y, z], _ =>
      simp [nums] at h
      simp [gnum, gFold, gBase]
      omega
  · rw [encZ4 a c d] at h hl
    match b, hl with
    | [x, y, z, v], _ =>
      simp [nums] at h
      simp [gnum, gFold, gBase]
      omega
/-- What the document's guess answers. -/
def guessI (b : List UInt8) : Int := if (dec b).2 = b.length then (dec b).1 else -1
theorem guess_yes {b : List UInt8} (h1 : scalarB (gnum b) = true) (h2 : encZ (gnum b) = nums b) : guessI b = gnum b := by
  have := dec_enc b _ h1 (by rw [h2]; exact List.prefix_refl _)
  unfold guessI
  rw [this, h2, nums_len, if_pos rfl]
theorem guess_no {b : List UInt8} (hb : b ≠ []) (h : ¬ (scalarB (gnum b) = true ∧ encZ (gnum b) = nums b)) : guessI b = -1 := by
  unfold guessI
  split
  · rename_i e
    exfalso
    obtain ⟨a, c, d⟩ := dec_yes (l := b) (r := (dec b).1) (n := b.length) (Prod.ext rfl e) (fun e => hb (List.eq_nil_of_length_eq_zero e))
    rw [List.take_length] at c
    have := gnum_enc a c
    exact h (by rw [this]; exact ⟨a, c⟩)
  · rfl
theorem gFold_bd : ∀ (t : List UInt8) (r : Int), -1000 ≤ r → r ≤ 1000 → t.length ≤ 3 → -300000000 ≤ gFold t r ∧ gFold t r ≤ 300000000 := by
  intro t r h1 h2 h3
  match t, h3 with
  | [], _ => simp [gFold]; omega
  | [x], _ =>
    have := UInt8.toNat_lt x
    simp [gFold]; omega
  | [x, y], _ =>
    have := UInt8.toNat_lt x
    have := UInt8.toNat_lt y
    simp [gFold]; omega
  | [x, y, z], _ =>
    have := UInt8.toNat_lt x
    have := UInt8.toNat_lt y
    have := UInt8.toNat_lt z
    simp [gFold]; omega
/-- Numbers as bytes. -/
def bytesOf (zs : List Int) : List UInt8 := zs.map fun z => UInt8.ofNat z.toNat
theorem nums_bytesOf {zs : List Int} (h : ∀ z ∈ zs, 0 ≤ z ∧ z < 256) : nums (bytesOf zs) = zs := by
  unfold nums bytesOf
  rw [List.map_map]
  conv => rhs; rw [← List.map_id zs]
  refine List.map_congr_left fun z hz => ?_
  have := h z hz
  simp
  omega
def encB (r : Int) : List UInt8 := bytesOf (encZ r)
theorem encZ_bd {r : Int} (h0 : 0 ≤ r) (h1 : r ≤ 1114111) : ∀ z ∈ encZ r, 0 ≤ z ∧ z < 256 := by
  by_cases a : r < 128
  · rw [encZ1 a]; simp; omega
  by_cases b : r < 2048
  · rw [encZ2 a b]; simp; omega
  by_cases c : r < 65536
  · rw [encZ3 a b c]; simp; omega
  · rw [encZ4 a b c]; simp; omega
theorem nums_encB {r : Int} (h0 : 0 ≤ r) (h1 : r ≤ 1114111) : nums (encB r) = encZ r := nums_bytesOf (encZ_bd h0 h1)
theorem nums_encB' {r : Int} (h : scalarB r = true) : nums (encB r) = encZ r := by
  obtain ⟨a, b, _⟩ := (scalarB_iff r).1 h
  exact nums_encB a b
end Go.Tk
