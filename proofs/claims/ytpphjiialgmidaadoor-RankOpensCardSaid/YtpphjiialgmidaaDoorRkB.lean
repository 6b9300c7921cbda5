/- Build of the program: what its closure writes, the vector's bytes. -/
import Derived.Test.YtpphjiialgmidaaDoorRkW
import Derived.Test.YtpphjiialgmidaaDoorRkDir
import Derived.Test.YtpphjiialgmidaaDoorCpK
set_option linter.unusedVariables false
set_option linter.unusedSimpArgs false
namespace Go.Proofs.YtpphjiialgmidaaDoor
open Go.RowKit Go.Tk
theorem vt_le {d : List UInt8} {N part i v : Nat} (h : Vt d N (part, i, v)) (hN : N ≤ 67108864) : v ≤ 1000000000 := by
  have hc := cnt_le d N
  rcases h with ⟨_, h2⟩ | ⟨_, h2⟩ | ⟨_, h2⟩
  · simp only at h2
    have h3 := (List.getElem?_eq_some_iff.1 h2).1
    rw [gr_len] at h3
    rw [gr_get d i N (by omega)] at h2
    have := Option.some.inj h2
    have := cnt_le d (i * 2048)
    omega
  · simp only at h2
    have h3 := (List.getElem?_eq_some_iff.1 h2).1
    rw [sm_len] at h3
    rw [sm_get d i N (by omega)] at h2
    have := Option.some.inj h2
    have := cnt_le d (i * 256)
    omega
  · simp only at h2
    have h3 := (List.getElem?_eq_some_iff.1 h2).1
    rw [mk_len] at h3
    obtain ⟨u, a, _, _, e⟩ := mk_val d N i (by omega)
    rw [e] at h2
    have := Option.some.inj h2
    omega
theorem head_take {d : List UInt8} {N m E : Nat} (hE : 8 + d.length ≤ E) : ((putL (putL (List.replicate E 0) 0 N 4) 4 m 4).take 8 ++ (nums d ++ (putL (putL (List.replicate E 0) 0 N 4) 4 m 4).drop (8 + (nums d).length))).take (grO d) = nums (leB N 4 ++ leB m 4 ++ d) := by
  have hl : (putL (putL (List.replicate E 0) 0 N 4) 4 m 4).length = E := by rw [put_len, put_len]; simp
  have h8 : (putL (putL (List.replicate E 0) 0 N 4) 4 m 4).take 8 = nums (leB N 4 ++ leB m 4) := by
    apply List.ext_getElem?
    intro i
    by_cases hi : i < 8
    · rw [List.getElem?_take, if_pos hi, put_at _ _ _ _ _ (by rw [put_len]; simp; omega), nums_append]
      by_cases h4 : i < 4
      · rw [if_neg (by omega), put_at _ _ _ _ _ (by simp; omega), if_pos (by omega), List.getElem?_append_left (by rw [nums_len, le_len]; exact h4), le_nums h4]
        simp
      · rw [if_pos (by omega), List.getElem?_append_right (by rw [nums_len, le_len]; omega), nums_len, le_len, le_nums (by omega)]
    · rw [List.getElem?_eq_none (by rw [List.length_take]; omega), List.getElem?_eq_none (by rw [nums_len]; simp [le_len]; omega)]
  rw [h8, ← List.append_assoc, ← nums_append, List.take_append_of_le_length (by rw [nums_len]; simp [le_len]; unfold grO; omega), List.take_of_length_le (by rw [nums_len]; simp [le_len]; unfold grO; omega)]
theorem info1 : (Tryd.prog.info? 5).map (·.size) = some 1 := by kernel_rfl
theorem slI_kept0 {S : Nat → Prop} {k : IntKind} {w w' : World} {a : Option Addr} {n cap : Nat} {zs : List Int} (h : SlI k w a n cap zs) (hk : Kept S w w') (ha : ∀ x, a = some x → 0 < n → ¬ S x.block) : SlI k w' a n cap zs :=
  ⟨h.len, h.le, h.max, fun i hi => by
    obtain ⟨b, o, rfl, hc⟩ := h.cell i hi
    exact ⟨b, o, rfl, hk.cell hc (ha ⟨b, o, none⟩ rfl (by omega))⟩⟩
/-- What the closure of Build captures, and what its row holds. -/
structure BI (w0 : World) (g pb pp : Nat) (d : List UInt8) (N : Nat) (w : World) (L : List (Nat × Nat × Nat)) : Prop where
  hb : w.heap[pb]? = some (.cells #[.slice (some ⟨g, 0, none⟩) (enO d N) (enO d N)] 22 (0, 0))
  hp : w.heap[pp]? = some (.cells #[.int .i64 8, .int .i64 (grO d : Nat), .int .i64 (smO d N : Nat), .int .i64 (mkO d N : Nat), .int .i64 (enO d N : Nat)] 40 (0, 0))
  row : ∃ zs, RowI .u8 5 w g zs ∧ RowT d N zs L
  kept : Kept (fun j => j = g) w0 w
end Go.Proofs.YtpphjiialgmidaaDoor
