/- UtfWhole: what Runes goes through is the text, as far as it is UTF-8. -/
import Derived.Test.YthloijpnbljpeaaUtfWalk2
import Derived.Test.YthloijpnbljpeaaUtfC
import Derived.Test.YthloijpnbljpeaaUtfWk
import Derived.Test.YthloijpnbljpeaaUtfUB
import Derived.Test.YthloijpnbljpeaaUtfSc
set_option linter.unusedVariables false
set_option linter.unusedSimpArgs false
namespace Go.Tk
open Go Go.RowKit
theorem kF_zero {p : List UInt8} (h : (dec p).2 = 0) : kF p = 0 := by
  by_cases hp : p = []
  · subst hp; rfl
  · unfold kF
    rw [chkF_step 0 hp, if_pos h]; rfl
theorem kF_step {p : List UInt8} (h : (dec p).2 ≠ 0) : kF p = (dec p).2 + kF (p.drop (dec p).2) := by
  have hle := (dec_le p).2
  have e : p = p.take (dec p).2 ++ p.drop (dec p).2 := (List.take_append_drop _ _).symm
  have hd := dec_take_fst p (dec p).2 (by omega) hle rfl
  have hl : (p.take (dec p).2).length = (dec p).2 := by rw [List.length_take]; omega
  have hne : p.take (dec p).2 ≠ [] := fun hh => by rw [hh] at hl; simp at hl; omega
  have hc : chkF (p.take (dec p).2) 0 = -1 := by
    rw [chkF_step 0 hne, hd, if_neg h, List.drop_of_length_le (by omega)]; rfl
  have hk : kF (p.take (dec p).2) = (dec p).2 := by unfold kF; rw [if_pos hc, hl]
  conv => lhs; rw [e]
  rw [k_cut, hk, tl_nil hc, List.nil_append]
end Go.Tk
namespace Go.Proofs.Ythloijpnbljpeaa
open Go.RowKit Go.Tk
theorem row_keep {W X : World} {n₀ e size : Nat} {v : Value} {k : Nat} {xs : List Value} (h : W.ownsRow n₀ e size v k xs) (hb : Below W.heap.size W X) : X.ownsRow n₀ e size v k xs := by
  rcases h with ⟨a, ⟨e1, e2⟩ | ⟨g, cap, cur, e1, e2, e3, e4⟩⟩
  · exact ⟨a, .inl ⟨e1, e2⟩⟩
  · exact ⟨a, .inr ⟨g, cap, cur, e1, e2, (hb.block g (lt_of_block e3)).trans e3, e4⟩⟩
theorem sl_fresh {w w' : World} {r : Int} (h : Fresh .u8 5 w w' w.heap.size (encZ r)) : SlI .u8 w' (some ⟨w.heap.size, 0, none⟩) (encZ r).length (encZ r).length (encZ r) := by
  have := h.row.sl (encZ r).length (encZ r).length (Nat.le_refl _) rfl (by have := (encZ_len r).2; omega)
  rwa [List.take_length] at this
theorem num0_calls (n : Int) (w : World) (h0 : 0 ≤ n) (h1 : n ≤ 1000) : Calls Try.prog 8 #[.int .i64 n] w fun e w' => e = .returned (.int .i64 n) ∧ w = w' := by
  go_enter Try.func8, Try.ntmps8
  go_wp2
  go_ret
  exact ⟨rfl, rfl⟩
theorem ubytesP_calls (r : Int) (w : World) (hr : scalarB r = true) :
    Calls Try.prog 6 #[.int .i32 r] w fun e w' => e = .returned (.tuple #[.slice (some ⟨w.heap.size, 0, none⟩) (encZ r).length (encZ r).length, .int .i64 0]) ∧ Fresh .u8 5 w w' w.heap.size (encZ r) := by
  have hb := (scalarB_iff r).1 hr
  have hs := fun w => scalar_calls r w
  rw [hr] at hs
  have hu := fun w => ubytes_calls r w (by omega) (by omega)
  have HS := Lib.hid hs
  have HU := Lib.hid hu
  clear hs hu hr
  go_enter Try.func6, Try.ntmps6
  go_wp2_with (first
    | (go_at_call 18; refine (HS.out _).mono ?_; rintro e w1 ⟨rfl, rfl⟩)
    | (go_at_call 19; refine (HU.out _).mono ?_; rintro e w1 ⟨rfl, hf⟩; (have HF := Lib.hid hf); clear hf))
  go_ret2
  exact ⟨rfl, HF.out⟩
set_option maxRecDepth 100000 in
set_option maxHeartbeats 2000000 in
theorem utfwhole_go (w : World) (s : ByteArray) (hs : s.size ≤ 1048576) :
    Calls Try.prog 5 #[.string s] w fun e w' => e = .returned (.bool true) ∧ Below w.heap.size w w' := by
  obtain ⟨l, hl⟩ : ∃ l, l = s.data.toList := ⟨_, rfl⟩
  have hll : l.length = s.size := by rw [hl, Lib.size_eq]
  have hck := fun w => check_calls s w (by omega)
  have hwk := fun w => walked_calls s (s.size + 1) w hs (by omega)
  rw [← hl] at hck hwk
  have hLl := seenL_len l 0
  rw [List.take_of_length_le (by omega)] at hwk
  obtain ⟨L, hL⟩ : ∃ L, L = seenL l 0 := ⟨_, rfl⟩
  rw [← hL] at hwk hLl
  have hkl := k_le l
  have HCK := Lib.hid hck
  have HWK := Lib.hid hwk
  have HLL := Lib.hid hll
  have HL := Lib.hid hl
  have HSL := Lib.hid hL
  clear hck hwk hll hl hL
  have key : ∀ c : Int, chkF l 0 = c → ((c < 0 ∧ kF l = s.size) ∨ (¬ c < 0 ∧ c = kF l)) := by
    intro c hc
    by_cases h : chkF l 0 = -1
    · left; exact ⟨by omega, by unfold kF; rw [if_pos h, HLL.out]⟩
    · right; have := (tl_some h).2.2; exact ⟨by omega, by omega⟩
  obtain ⟨c, hc⟩ : ∃ c, c = chkF l 0 := ⟨_, rfl⟩
  have hkey := key c hc.symm
  have hck := HCK.out
  rw [← hc] at hck
  have HCK := Lib.hid hck
  clear hck key hc
  rcases hkey with ⟨hc0, hk⟩ | ⟨hc0, rfl⟩
  all_goals
    go_enter Try.func5, Try.ntmps5
    go_wp2_with (first
      | (go_at_call 17; refine (works_calls _).mono ?_; rintro e w0 ⟨rfl, hb0⟩; (have HB0 := Lib.hid hb0); clear hb0)
      | (go_at_call 15; refine (HWK.out _).mono ?_; rintro e w1 ⟨v, rfl, hv, hb1⟩; (have HB1 := Lib.hid (HB0.out.trans (hb1.mono HB0.out.size))); (have HV := Lib.hid hv); clear hv hb1)
      | (go_at_call 13; (with_reducible refine (HCK.out _).mono ?_); rintro e w3 ⟨rfl, rfl⟩))
    have hv := HV.out
    have hb1 := HB1.out
    obtain ⟨a1, c1, rfl⟩ := ownsRow_slice hv
    have hat : ∀ wr : World, wr.ownsRow w0.heap.size 38 2 (.slice a1 L.length c1) L.length (seenCs L) → ∀ k, (hk : k < L.length) → ∃ g1, a1 = some ⟨g1, 0, none⟩ ∧ wr.cell? ⟨g1, k * 2, none⟩ = some (.int .i64 (L[k].1 : Nat)) ∧ wr.cell? ⟨g1, k * 2 + 1, none⟩ = some (.int .i64 L[k].2) := by
      intro wr h1 k hk
      have hs := seenCs_at L k hk
      rcases h1.2 with ⟨hv, h0⟩ | ⟨g1, cap1, cur1, hv1, _⟩
      · omega
      simp at hv1
      obtain ⟨rfl, rfl⟩ := hv1
      have x1 := World.ownsRow.cells h1 (g := g1) rfl
      refine ⟨g1, rfl, ?_, ?_⟩
      · have := x1 (k * 2) _ hs.1; rw [Addr.add_lit, Nat.zero_add] at this; exact this
      · have := x1 (k * 2 + 1) _ hs.2; rw [Addr.add_lit, Nat.zero_add] at this; exact this
    have HAT := Lib.hid hat
    have HV1 := Lib.hid hv
    clear hat hv hb1 HV
    go_loopw [6, 7] (fun ov iv wr => ∃ (i k : Nat), iv = .int .i64 (i : Nat) ∧ i ≤ L.length ∧ k ≤ l.length ∧ L.drop i = seenL (l.drop k) k ∧ kF l = k + kF (l.drop k) ∧ Ow .u8 5 w1.heap.size wr ov (nums (l.take k)) ∧ Below w1.heap.size w1 wr) (fun _ iv _ => L.length - (intOf iv).toNat)
    case atStart => exact ⟨0, 0, rfl, Nat.zero_le _, Nat.zero_le _, by rw [HSL.out]; rfl, by simp, Ow.nil _ _ _ _, Below.refl _ _⟩
    case round =>
      obtain ⟨i, k, rfl, hi, hkk, hdr, hkf, how, hbw⟩ := hrel
      obtain ⟨ao, co, rfl, hso, _⟩ := how.sl
      have hon : (nums (l.take k)).length = k := by rw [nums_len, List.length_take]; omega
      have HON := Lib.hid hon
      have HOW := Lib.hid how
      have HBW := Lib.hid hbw
      have HKF := Lib.hid hkf
      have HDR := Lib.hid hdr
      clear how hbw hso hon hkf hdr
      by_cases hil : i < L.length
      · have hdr := HDR.out
        rw [List.drop_eq_getElem_cons hil] at hdr
        have hd0 : (dec (l.drop k)).2 ≠ 0 := fun h => by rw [seenL_bad k h] at hdr; exact List.cons_ne_nil _ _ hdr
        rw [seenL_step k hd0] at hdr
        obtain ⟨r, n, hd⟩ : ∃ r n, dec (l.drop k) = (r, n) := ⟨_, _, rfl⟩
        have hkf := HKF.out
        rw [kF_step hd0] at hkf
        have hdl := dec_le (l.drop k)
        obtain ⟨hr, he, hn⟩ := dec_yes hd (by rw [hd] at hd0; exact hd0)
        rw [hd] at hdr hkf hdl
        simp only [List.cons.injEq, List.drop_drop] at hdr hkf hdl
        rw [List.length_drop] at hdl
        obtain ⟨g1, rfl, x1, x2⟩ := HAT.out _ (row_keep HV1.out HBW.out) i hil
        rw [hdr.1] at x1 x2
        simp only at x1 x2
        have hrs := (scalarB_iff r).1 hr
        have hcat : nums (l.take k) ++ encZ r = nums (l.take (k + n)) := by
          rw [he, ← nums_append, List.take_add]
        have hen : (encZ r).length ≤ 4 := (encZ_len r).2
        have HR := Lib.hid hr
        have HCAT := Lib.hid hcat
        have HDR2 := Lib.hid hdr.2
        have HKF2 := Lib.hid hkf
        have hkn : k + n ≤ l.length := by omega
        have hne : ((k : Int) != ((nums (l.take k)).length : Int)) = false := by rw [HON.out]; simp
        have hiz : i ≤ 1048576 := by have := HLL.out; omega
        have hkz : k ≤ 1048576 := by have := HLL.out; omega
        clear hr hcat hdr hkf hd he hn hdl HDR HKF hd0
        go_wp2_with (first
          | (go_at_call 6; refine (ubytesP_calls _ _ HR.out).mono ?_; rintro e w4 ⟨rfl, hf⟩; (have HF := Lib.hid hf); (have y1 := (HF.out.below.cell (p := ⟨g1, i * 2, none⟩) (block_lt_of_cell x1)).trans x1); clear hf)
          | (go_at_call 8; refine (num0_calls _ _ (by omega) (by omega)).mono ?_; rintro e w5 ⟨rfl, rfl⟩)
          | (at_builtin; go_loud (refine wpList_appJ rfl (.tmp 55) (.tmp 56) _ rfl .u8 w1.heap.size 5 _ 1 Try.underlying22 Try.infoU8 rfl _ (nums (l.take k)) rfl (HOW.out.below HF.out.below (fun g hg => (HOW.out.lt g hg).2)) _ _ _ (encZ r) rfl (sl_fresh HF.out) (fun h => by cases h) (by have := HON.out; omega) (by have := HON.out; omega) (Nat.le_trans HBW.out.size HF.out.below.size) ?_; intro v' w' ow' hg' st'; (have HOW2 := Lib.hid ow'); (have HB2 := Lib.hid ((HBW.out.trans (HF.out.below.mono HBW.out.size)).grown hg' (Nat.le_trans HBW.out.size HF.out.below.size) (fun j hj => (HOW.out.lt j hj).1))); clear ow' hg' st')))
        go_roundw
        case rel => exact ⟨i + 1, k + n, by go_num, by omega, hkn, HDR2.out, by have := HKF2.out; omega, by rw [← HCAT.out]; exact HOW2.out, HB2.out⟩
        case measure => simp [intOf]; omega
      · have hz : kF l = k := by
          have h1 := HDR.out
          rw [List.drop_of_length_le (by omega)] at h1
          have h2 : (dec (l.drop k)).2 = 0 := by
            by_cases h : (dec (l.drop k)).2 = 0
            · exact h
            · rw [seenL_step k h] at h1; exact absurd h1 (by simp)
          have := HKF.out
          rw [kF_zero h2] at this
          omega
        have hconv : ∀ n, (convert 22 9 (.slice ao (nums (l.take k)).length co)).run Try.prog (wr.drewN n) = .ok (.string ⟨(l.take k).toArray⟩) (wr.drewN n) := fun n => (HOW.out.drewN n).str Try.underlying22 Try.underlying5 Try.underlying9
        obtain ⟨B, hB⟩ : ∃ B : ByteArray, B = ⟨(l.take k).toArray⟩ := ⟨_, rfl⟩
        rw [← hB] at hconv
        have hls : k ≤ s.size := by have := HLL.out; omega
        have hbe : (B.toList == (s.extract 0 k).toList) = true := by
          have e1 : B.data.toList = l.take k := by rw [hB]
          have e2 : (s.extract 0 k).data.toList = l.take k := by rw [HL.out]; simp
          rw [Lib.toList_data, Lib.toList_data, e1, e2]; simp
        first
          | (have hks := hk.symm.trans hz; rw [← hks] at hbe; have hbe2 : (B.toList == s.toList) = true := (by simpa using hbe); clear hks hk)
          | rw [hz]
        clear hB hz
        go_wp2_with fail
        go_quiet (fail)
        go_wp2
        go_ret
        exact ⟨rfl, below_drewN (HB1.out.trans (HBW.out.mono HB1.out.size)) _⟩
end Go.Proofs.Ythloijpnbljpeaa
