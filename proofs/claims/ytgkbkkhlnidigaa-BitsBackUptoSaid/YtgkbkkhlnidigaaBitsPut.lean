/- A row of calls that is appended to. -/
import Derived.Test.YtgkbkkhlnidigaaBitsAgain
import Derived.Test.YtgkbkkhlnidigaaBitsOneA
namespace Go.Proofs.Ytgkbkkhlnidigaa
open Go.RowKit Go.Tk
/-- A call's five cells. -/
def opC (o : OpV) : List Value := [.int .i64 o.kind, .int .u64 o.n, .int .i64 o.k, .slice o.ba o.bl o.bc, .bool o.two]
def opsC (l : List OpV) : List Value := l.flatMap opC
theorem opsC_len : ∀ l : List OpV, (opsC l).length = l.length * 5
  | [] => rfl
  | o :: l => by
    have := opsC_len l
    unfold opsC at this ⊢
    simp only [List.flatMap_cons, List.length_append, List.length_cons, this]
    simp [opC]; omega
theorem opsC_get : ∀ (l : List OpV) (i j : Nat), i < l.length → j < 5 → (opsC l)[i * 5 + j]? = (opC (l.getD i default))[j]?
  | [], i, j, h, _ => by simp at h
  | o :: l, 0, j, _, hj => by
    simp only [opsC, List.flatMap_cons, Nat.zero_mul, Nat.zero_add]
    rw [List.getElem?_append_left (by simpa [opC] using hj)]
    rfl
  | o :: l, i + 1, j, h, hj => by
    have := opsC_get l i j (by simpa using h) hj
    unfold opsC at this ⊢
    rw [List.flatMap_cons, List.getElem?_append_right (by simp [opC]; omega)]
    rw [show (i + 1) * 5 + j - (opC o).length = i * 5 + j by simp [opC]; omega, this]
    simp
/-- The slice owns a row of calls. -/
def PutOwn (base : Nat) (w : World) (v : Value) (l : List OpV) : Prop := w.ownsRow base 53 5 v l.length (opsC l)
theorem PutOwn.kept {S : Nat → Prop} {base : Nat} {w w' : World} {v : Value} {l : List OpV} (h : PutOwn base w v l) (hk : Kept S w w') (hv : ∀ g, v.ownBlock = some g → ¬ S g) : PutOwn base w' v l := by
  refine ⟨h.1, ?_⟩
  rcases h.2 with hn | ⟨g, cap, cur, rfl, hbg, hgg, rest⟩
  · exact .inl hn
  · exact .inr ⟨g, cap, cur, rfl, hbg, (hk.block g (Array.getElem?_eq_some_iff.1 hgg).1 (hv g rfl)).trans hgg, rest⟩
theorem PutOwn.form {base : Nat} {w : World} {v : Value} {l : List OpV} (h : PutOwn base w v l) : ∃ a c, v = .slice a l.length c ∧ l.length ≤ c ∧ c ≤ 9223372036854775807 ∧ (∀ x, a = some x → base ≤ x.block ∧ x.block < w.heap.size ∧ x = ⟨x.block, 0, none⟩) ∧ (a = none → l.length = 0) := by
  rcases h.2 with ⟨rfl, h0⟩ | ⟨g, cap, cur, rfl, hbg, hgg, h1, h2, _⟩
  · exact ⟨none, 0, by rw [h0], by omega, by omega, fun x hx => by simp at hx, fun _ => h0⟩
  · exact ⟨_, cap, rfl, h1, by simpa [maxLen] using h2, fun x hx => by obtain rfl := Option.some.inj hx; exact ⟨hbg, (Array.getElem?_eq_some_iff.1 hgg).1, rfl⟩, fun e => by simp at e⟩
/-- Such a row reads as its calls. -/
theorem PutOwn.at_ {base : Nat} {w : World} {a : Option Addr} {c : Nat} {l : List OpV} (h : PutOwn base w (.slice a l.length c) l) (hr : ∀ o ∈ l, (-9223372036854775808 ≤ o.kind ∧ o.kind ≤ 9223372036854775807) ∧ (0 ≤ o.n ∧ o.n < 18446744073709551616) ∧ (-9223372036854775808 ≤ o.k ∧ o.k ≤ 9223372036854775807) ∧ SlI .u8 w o.ba o.bl o.bc o.bz ∧ (o.ba = none → o.bc = 0) ∧ ∀ x ∈ o.bz, 0 ≤ x ∧ x < 256) :
    OpsAt w a l.length c (fun i => l.getD i default) := by
  rcases h.2 with ⟨hv, h0⟩ | ⟨g, cap, cur, hv, hbg, hgg, h1, h2, _⟩
  · simp only [Value.slice.injEq] at hv
    obtain ⟨rfl, _, rfl⟩ := hv
    exact ⟨by omega, by omega, fun i hi => by omega⟩
  · simp only [Value.slice.injEq] at hv
    obtain ⟨rfl, _, rfl⟩ := hv
    refine ⟨h1, by simpa [maxLen] using h2, fun i hi => ⟨g, 0, rfl, ?_⟩⟩
    have hc : ∀ j u, (opsC l)[j]? = some u → w.cell? ⟨g, j, none⟩ = some u := fun j u hu => by
      have := World.ownsRow.cells (g := g) h rfl j u hu
      rw [Addr.add_lit] at this
      simpa using this
    have hm : l.getD i default ∈ l := by
      rw [show l.getD i default = l[i] by simp [hi]]
      exact List.getElem_mem hi
    obtain ⟨r1, r2, r3, r4, r5, r6⟩ := hr _ hm
    have g0 := opsC_get l i 0 hi (by omega)
    have g1 := opsC_get l i 1 hi (by omega)
    have g2 := opsC_get l i 2 hi (by omega)
    have g3 := opsC_get l i 3 hi (by omega)
    have g4 := opsC_get l i 4 hi (by omega)
    generalize l.getD i default = o at *
    refine ⟨?_, ?_, ?_, ?_, ?_, r1, r2, r3, r4, r5, r6⟩
    · rw [Nat.zero_add]; exact hc _ _ g0
    · rw [Nat.zero_add]; exact hc _ _ g1
    · rw [Nat.zero_add]; exact hc _ _ g2
    · rw [Nat.zero_add]; exact hc _ _ g3
    · rw [Nat.zero_add]; exact hc _ _ g4
theorem infoOp : ∃ b, b ≤ 64 ∧ (Try.prog.info? 53).map (fun i => (i.zero, i.size, i.bytes)) = some (some (.agg #[.int .i64 0, .int .u64 0, .int .i64 0, .slice none 0 0, .bool false]), 5, b) := ⟨56, by omega, by kernel_rfl⟩
/-- append(put, o): at a list of operations. -/
theorem wpList_put {w : World} {ops : Array Oper} {rest : List Oper} {o : Oper} {a : Act} {Q : Exit → Act → World → Prop} (hgd : o.guard = none) (s x : Operand)
    (ho : o.op = .call { callee := .builtin .append, args := #[s, x], argTypes := #[45, 45] })
    (base : Nat) (v : Value) (l : List OpV) (hs : a.eval s = v) (hown : PutOwn base w v l) (b : Nat) (op : OpV) (hx : a.eval x = .slice (some ⟨b, 0, none⟩) 1 1) (hb : BoxO w b op)
    (hl : l.length ≤ 1048576) (hbase : base ≤ w.heap.size)
    (h : ∀ v' w', PutOwn base w' v' (l ++ [op]) → w.grownBy w' v.ownBlock → OwnStep w v v' → wpList Try.prog ops Q rest (a.put o.dst v') w') : wpList Try.prog ops Q (o :: rest) a w := by
  obtain ⟨bb, hbb, hinfo⟩ := infoOp
  obtain ⟨i, hi, hz0, hz1, hz2⟩ := info_parts hinfo
  have h64 : (l.length + 1) * bb ≤ (l.length + 1) * 64 := Nat.mul_le_mul_left _ hbb
  refine wpList_app (w := w) hgd s x 45 ho base 53 i _ 5 bb Try.underlying45 hi hz0 hz1 hz2 rfl (by decide) v l.length (opsC l) hs hown ⟨b, 0, none⟩ 1 1 (opC op) hx rfl ?_ ?_ (by unfold maxLen; omega) (by omega) hbase (fun v' w' h1 h2 h3 => h v' w' ?_ h2 h3)
  · intro j u hu
    rw [Addr.add_lit, Nat.zero_add]
    match j, hu with
    | 0, hu => rw [hb.c0]; exact hu
    | 1, hu => rw [hb.c1]; exact hu
    | 2, hu => rw [hb.c2]; exact hu
    | 3, hu => rw [hb.c3]; exact hu
    | 4, hu => rw [show w.cell? ⟨b, 4, none⟩ = some (.bool op.two) by rw [cell_of_row w b 4 _ _ _ hb]; rfl]; exact hu
    | j + 5, hu => simp [opC] at hu
  · intro u hu
    simp only [opC, List.mem_cons, List.not_mem_nil, or_false] at hu
    rcases hu with rfl | rfl | rfl | rfl | rfl <;> rfl
  · unfold PutOwn
    rw [List.length_append, show opsC (l ++ [op]) = opsC l ++ opC op by simp [opsC]]
    exact h1
theorem agN_foldl (z : List Int) (l : List OpV) (s : Nat × Int × Bool) : ∀ j, j ≤ l.length → agN z (fun i => l.getD i default) s j = (l.take j).foldl (agStep z) s
  | 0, _ => by simp [agN]
  | j + 1, h => by
    rw [List.take_succ_eq_append_getElem (by omega), List.foldl_append, ← agN_foldl z l s j (by omega)]
    simp [agN, show j < l.length by omega]
end Go.Proofs.Ytgkbkkhlnidigaa
