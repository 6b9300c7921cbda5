/- Escape: the program's, the document's. -/
import Derived.Test.YthloijpnbljpeaaUtfW
import Derived.Test.YthloijpnbljpeaaUtfRg
import Derived.Test.YthloijpnbljpeaaBld
import Derived.Lib.AppendStr
import Derived.Lib.OthersKept
set_option linter.unusedVariables false
set_option linter.unusedSimpArgs false
namespace Go.Tk
open Go Go.RowKit
/-- A text as it is written, scalar by scalar. -/
def escN : Nat → List UInt8 → Int → List UInt8
  | 0, _, _ => []
  | f + 1, l, way => if (dec l).2 = 0 then [] else wrB (dec l).1 way ++ escN f (l.drop (dec l).2) way
theorem dec_nil0 : (dec []).2 = 0 := rfl
theorem escN_fuel : ∀ (f g : Nat) (l : List UInt8) (way : Int), l.length ≤ f → l.length ≤ g → escN f l way = escN g l way
  | 0, g, l, way, h, _ => by
    obtain rfl : l = [] := List.eq_nil_of_length_eq_zero (by omega)
    cases g <;> simp [escN, dec_nil0]
  | f + 1, 0, l, way, _, h => by
    obtain rfl : l = [] := List.eq_nil_of_length_eq_zero (by omega)
    simp [escN, dec_nil0]
  | f + 1, g + 1, l, way, h1, h2 => by
    simp only [escN]
    split
    · rfl
    · rw [escN_fuel f g _ _ (by simp; omega) (by simp; omega)]
def escF (l : List UInt8) (way : Int) : List UInt8 := escN l.length l way
theorem escF_nil (way : Int) : escF [] way = [] := rfl
theorem escF_step {l : List UInt8} (way : Int) (h : (dec l).2 ≠ 0) : escF l way = wrB (dec l).1 way ++ escF (l.drop (dec l).2) way := by
  have hp : l ≠ [] := by rintro rfl; exact h rfl
  have hp' := List.length_pos_iff.2 hp
  obtain ⟨n, hn⟩ : ∃ n, l.length = n + 1 := ⟨l.length - 1, by omega⟩
  unfold escF
  rw [hn]
  simp only [escN]
  rw [if_neg h, escN_fuel n (l.drop (dec l).2).length _ _ (by simp; omega) (Nat.le_refl _)]
theorem escN_len : ∀ (f : Nat) (l : List UInt8) (way : Int), (escN f l way).length ≤ 6 * l.length
  | 0, _, _ => by simp [escN]
  | f + 1, l, way => by
    simp only [escN]
    split
    · simp
    · rename_i h
      have h1 := wrB_len (dec l).1 way
      have h2 := escN_len f (l.drop (dec l).2) way
      have h3 := dec_le l
      simp at h2 ⊢
      omega
theorem escF_len (l : List UInt8) (way : Int) : (escF l way).length ≤ 6 * l.length := escN_len _ _ _
theorem chkN_val : ∀ (f : Nat) (l : List UInt8) (x : Int), 0 ≤ x → chkN f l x = -1 ∨ x ≤ chkN f l x
  | 0, _, _, _ => .inl rfl
  | f + 1, l, x, h => by
    simp only [chkN]
    split
    · exact .inl rfl
    split
    · exact .inr (Int.le_refl _)
    · rcases chkN_val f (l.drop (dec l).2) (x + (dec l).2) (by omega) with h1 | h1
      · exact .inl h1
      · exact .inr (by omega)
theorem chkF_val (l : List UInt8) (x : Int) (h : 0 ≤ x) : chkF l x = -1 ∨ x ≤ chkF l x := chkN_val _ _ _ h
/-- A valid text: a step. -/
theorem chk_ok {l : List UInt8} {k : Nat} (h : chkF (l.drop k) k = -1) (hk : k < l.length) : (dec (l.drop k)).2 ≠ 0 ∧ k + (dec (l.drop k)).2 ≤ l.length ∧ chkF (l.drop (k + (dec (l.drop k)).2)) ((k + (dec (l.drop k)).2 : Nat) : Int) = -1 := by
  have hne : l.drop k ≠ [] := by
    intro e
    have := congrArg List.length e
    simp at this; omega
  rw [chkF_step _ hne] at h
  have hle := (dec_le (l.drop k)).2
  rw [List.length_drop] at hle
  split at h
  · omega
  · rename_i h0
    refine ⟨h0, by omega, ?_⟩
    rw [List.drop_drop] at h
    rw [← h]
    congr 1
theorem bldr_below {T e : TypeId} {B b : Nat} {bs : List Value} {w w' : World} (h : Lib.IsBuilderF T e B b bs w) (hb : Below w.heap.size w w') : Lib.IsBuilderF T e B b bs w' := by
  have one : ∀ p, Lib.BuilderAtF T e B b p bs w → Lib.BuilderAtF T e B b p bs w' := by
    rintro p ⟨hB, v, hbk, hown, hne⟩
    refine ⟨hB, v, (hb.block b (lt_of_block hbk)).trans hbk, ⟨hown.1, ?_⟩, hne⟩
    rcases hown.2 with h0 | ⟨g, cap, cur, fz, h1, h2, h3, h4⟩
    · exact .inl h0
    · exact .inr ⟨g, cap, cur, fz, h1, h2, (hb.block g (lt_of_block h3)).trans h3, h4⟩
  exact h.elim (fun h => .inl (one _ h)) (fun h => .inr (one _ h))
theorem ow_str {w : World} {e : TypeId} {base : Nat} {v : Value} {acc bs : List UInt8} (h : w.ownsRow base e 1 v ((nums acc).length + (⟨bs.toArray⟩ : ByteArray).size) ((nums acc).map (Value.int .u8) ++ Lib.strCells ⟨bs.toArray⟩)) : Ow .u8 e base w v (nums (acc ++ bs)) := by
  unfold Ow
  have e1 : (nums (acc ++ bs)).length = (nums acc).length + (⟨bs.toArray⟩ : ByteArray).size := by simp [nums_len, Lib.size_eq]
  have e2 : (nums (acc ++ bs)).map (Value.int .u8) = (nums acc).map (Value.int .u8) ++ Lib.strCells ⟨bs.toArray⟩ := by
    simp [nums, Lib.strCells]
  rw [e1, e2]
  exact h
end Go.Tk
namespace Go.Proofs.Ythloijpnbljpeaa
open Go.RowKit Go.Tk
theorem wrong_calls (at' n : Int) (w : World) :
    Calls Try.prog 27 #[.int .i64 at', .int .i64 n] w fun e w' => e = .returned (.iface 70 (.pointer (some ⟨w.heap.size, 0, none⟩))) ∧ w' = w.alloc (.cells #[.int .i64 at', .iface 23 (.int .i64 n)] 72) := by
  go_enter Try.func27, Try.ntmps27
  go_wp2
  go_ret
  exact ⟨rfl, rfl⟩
/-- An error of this place and number. -/
def ErrAt (w' : World) (B : Nat) (v : Value) (at' n : Int) : Prop := ∃ b, v = .iface 70 (.pointer (some ⟨b, 0, none⟩)) ∧ B ≤ b ∧ w'.heap[b]? = some (.cells #[.int .i64 at', .iface 23 (.int .i64 n)] 72 (0, 0))
set_option maxRecDepth 100000 in
set_option maxHeartbeats 4000000 in
theorem uescape_calls (s : ByteArray) (way : Int) (w : World) (hs : s.size ≤ 8000000) :
    Calls Try.prog 24 #[.string s, .int .i64 way] w fun e w' => (0 ≤ chkF s.data.toList 0 → ∃ v, e = .returned (.tuple #[.string ⟨#[]⟩, v]) ∧ ErrAt w' w.heap.size v (chkF s.data.toList 0) 40) ∧
      (chkF s.data.toList 0 < 0 → e = .returned (.tuple #[.string ⟨(escF s.data.toList way).toArray⟩, .nilIface])) ∧ Below w.heap.size w w' := by
  obtain ⟨l, hl⟩ : ∃ l, l = s.data.toList := ⟨_, rfl⟩
  have hll : l.length = s.size := by rw [hl, Lib.size_eq]
  have hck := fun w => check_calls s w (by omega)
  have hdc := fun pos (h : pos < s.size) => decode_dec s pos h
  rw [← hl] at hck hdc ⊢
  have HL := Lib.hid hl
  have HLL := Lib.hid hll
  have HDC := Lib.hid hdc
  clear hl hll hdc
  obtain ⟨c, hc⟩ : ∃ c, c = chkF l 0 := ⟨_, rfl⟩
  rw [← hc] at hck ⊢
  have HCK := Lib.hid hck
  have HC := Lib.hid hc
  clear hck hc
  by_cases c0 : 0 ≤ c
  · go_enter Try.func24, Try.ntmps24
    go_wp2_with (first
      | (go_at_call 13; refine (HCK.out _).mono ?_; rintro e w1 ⟨rfl, rfl⟩)
      | (go_at_call 27; refine (wrong_calls _ _ _).mono ?_; rintro e w1 ⟨rfl, rfl⟩))
    go_ret2
    exact ⟨fun _ => ⟨_, rfl, _, rfl, Nat.le_refl _, heap_alloc_new _ _⟩, fun h => absurd h (by omega), (Below.refl _ _).alloc (Nat.le_refl _) _⟩
  · have hcv : chkF l 0 = -1 := by
      rcases chkF_val l 0 (Int.le_refl _) with h | h
      · exact h
      · have := HC.out; omega
    have HCV := Lib.hid hcv
    clear hcv
    go_enter Try.func24, Try.ntmps24
    go_wp2_with (go_at_call 13; refine (HCK.out _).mono ?_; rintro e w1 ⟨rfl, rfl⟩)
    rename World => w
    go_loopw [] (fun wr => ∃ (pos : Nat) (acc : List UInt8), Bldr w.heap.size w.heap.size (Lib.byteCells acc) wr ∧ wr.heap[w.heap.size + 1]? = some (.stringIter s pos) ∧ Below w.heap.size w wr ∧ acc ++ escF (l.drop pos) way = escF l way ∧ chkF (l.drop pos) pos = -1 ∧ pos ≤ s.size ∧ acc.length ≤ 6 * pos) (fun wr => s.size - wr.iterPos (w.heap.size + 1))
    case atStart =>
      refine ⟨0, [], (Lib.IsBuilderF.of (Lib.fresh_isBuilder _ _ w)).alloc _, ?_, ((Below.refl _ w).alloc (Nat.le_refl _) _).alloc (by simp) _, rfl, HCV.out, Nat.zero_le _, by simp⟩
      have := World.iter_heap (w.alloc (.cells #[.pointer none, .slice none 0 0] 64)) s 0
      simpa using this
    case round =>
      obtain ⟨pos, acc, hI, hit, hbw, hacc, hchk, hps, hal⟩ := hrel
      have hsz : w.heap.size + 1 < wr.heap.size := (Array.getElem?_eq_some_iff.1 hit).1
      by_cases hp : pos < s.size
      · obtain ⟨d1, d2, d3⟩ := chk_ok hchk (by rw [HLL.out]; exact hp)
        have hde := HDC.out pos hp d1
        obtain ⟨R, n, hd⟩ : ∃ R n, dec (l.drop pos) = (R, n) := ⟨_, _, rfl⟩
        have hst := escF_step way d1
        obtain ⟨hR, _, _⟩ := dec_yes hd (by rw [hd] at d1; exact d1)
        have hR0 := ((scalarB_iff R).1 hR).1
        rw [hd] at hde hst d1 d2 d3
        simp only at hde hst d1 d2 d3
        rw [HLL.out] at d2
        rw [List.drop_drop] at hst
        have hwl := wrB_len R way
        have hnx : ∀ ty, (Instr.next (.pointer (some ⟨w.heap.size + 1, 0, none⟩)) true ty).run Try.prog wr = .ok (.tuple #[.bool true, .int .i64 pos, .int .i32 R]) (wr.iterAt (w.heap.size + 1) s (pos + n)) := fun ty => by
          rw [Lib.run_next_any_at wr (w.heap.size + 1) s pos ty hit hp, hde]
          simp only [Int.toNat_of_nonneg hR0]
        have hI2 := hI.iterAt hit (pos + n)
        have hit2 := Lib.iterAt_heap wr (w.heap.size + 1) s pos (pos + n) hit
        have hbw2 := Lib.below_iterAt hbw (k := w.heap.size + 1) (by omega) s (pos + n)
        have hsz2 : wr.heap.size = (wr.iterAt (w.heap.size + 1) s (pos + n)).heap.size := (Lib.iterAt_size _ _ _ _).symm
        have HR := Lib.hid hR
        have HA := Lib.hid hacc
        have HS := Lib.hid hst
        have D3 := Lib.hid d3
        have HI2 := Lib.hid hI2
        have HIT2 := Lib.hid hit2
        have HBW2 := Lib.hid hbw2
        have HSZ2 := Lib.hid hsz2
        have HIT := Lib.hid hit
        clear hacc hst d3 hR hd hI hit hbw hchk hI2 hit2 hbw2 hsz2 hde
        go_wp2_with (first
          | (go_at_call 29; refine (uwritten_calls R way _ HR.out).mono ?_; rintro e w2 ⟨rfl, hb2⟩; (have HB2 := Lib.hid hb2); (have HI3 := Lib.hid (bldr_below HI2.out hb2)); (have HIT3 := Lib.hid ((hb2.block _ (by rw [← HSZ2.out]; exact hsz)).trans HIT2.out)); (have HBW3 := Lib.hid (HBW2.out.trans (hb2.mono HBW2.out.size))); clear hb2)
          | (go_at_call 28; refine (writeString_calls w.heap.size w.heap.size _ _ _ HI3.out (by rw [Lib.byteCells_length, Lib.size_eq]; simp; omega) HBW3.out.size).mono ?_; rintro e w3 ⟨rfl, h3, b3, k3⟩; (have H3 := Lib.hid h3); (have B3 := Lib.hid b3); (have K3 := Lib.hid k3); clear h3 b3 k3))
        go_roundw
        case rel =>
          refine ⟨pos + n, acc ++ wrB R way, ?_, K3.out.iter HIT3.out (by omega), HBW3.out.trans B3.out, ?_, D3.out, d2, by simp; omega⟩
          · rw [Lib.byteCells_append]; exact H3.out
          · rw [List.append_assoc, ← HS.out]; exact HA.out
        case measure =>
          simp only [World.iterPos, K3.out.iter HIT3.out (by omega), HIT.out]
          omega
      · have hnx : ∀ ty, (Instr.next (.pointer (some ⟨w.heap.size + 1, 0, none⟩)) true ty).run Try.prog wr = _ := fun ty => Lib.run_next_end_at wr (w.heap.size + 1) s pos ty hit hp
        have hz : l.drop pos = [] := List.drop_of_length_le (by rw [HLL.out]; omega)
        rw [hz, escF_nil, List.append_nil] at hacc
        have HA := Lib.hid hacc
        have HI := Lib.hid hI
        have HBW := Lib.hid hbw
        clear hacc hI hbw hz hchk
        go_wp2_with (go_at_call 30; refine (Try.Builder_String_any_k w.heap.size w.heap.size acc _ HI.out HBW.out.size).mono ?_; rintro e w3 ⟨rfl, _, b3, _⟩)
        go_ret2
        exact ⟨fun h => absurd h (by omega), fun _ => by rw [← HA.out]; rfl, HBW.out.trans b3⟩
end Go.Proofs.Ythloijpnbljpeaa
