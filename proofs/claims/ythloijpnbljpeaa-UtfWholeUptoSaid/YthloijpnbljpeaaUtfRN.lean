/- The document's Next. -/
import Derived.Test.YthloijpnbljpeaaUtfR
set_option linter.unusedVariables false
set_option linter.unusedSimpArgs false
namespace Go.Proofs.Ythloijpnbljpeaa
open Go.RowKit Go.Tk
set_option maxHeartbeats 1000000 in
set_option maxRecDepth 100000 in
theorem rnext_in (s : ByteArray) (k : Nat) (w : World) (hs : s.size ≤ 140737488351232) (hk : k < s.size) :
    Calls Try.prog 12 #[.string s, .int .i64 (k : Nat)] w fun e w' => e = .returned (.tuple #[.int .i64 (dec (s.data.toList.drop k)).1, .int .i64 (dec (s.data.toList.drop k)).2]) ∧ Below w.heap.size w w' := by
  obtain ⟨l, hl⟩ : ∃ l, l = s.data.toList.drop k := ⟨_, rfl⟩
  have hll : l.length = s.size - k := by rw [hl]; simp
  rw [← hl]
  have hex : ∀ n : Nat, k + n ≤ s.size → (s.extract k (k + n)).data.toList = l.take n ∧ (s.extract k (k + n)).size = n := fun n hn => by
    have : (s.extract k (k + n)).data.toList = l.take n := by rw [Lib.extract_data, hl]; simp
    exact ⟨this, by rw [Lib.size_eq, this, List.length_take]; omega⟩
  have HL := Lib.hid hl
  have HLL := Lib.hid hll
  have HEX := Lib.hid hex
  have hk0 : decide ((k : Int) < 0) = false := by simp
  have hk1 : decide (s.size ≤ k) = false := by simpa using hk
  clear hl hll hex
  go_enter Try.func12, Try.ntmps12
  go_wp2_with fail
  go_loopw [6] (fun i wr => ∃ (n : Nat), 1 ≤ n ∧ n ≤ 5 ∧ i = .int .i64 (n : Nat) ∧ Below w.heap.size w wr ∧ (∀ m, 1 ≤ m → m < n → m ≤ l.length → (dec l).2 ≠ m)) (fun i _ => 5 - (intOf i).toNat)
  case atStart => exact ⟨1, Nat.le_refl _, by omega, rfl, Below.refl _ _, fun m h1 h2 => by omega⟩
  case round =>
    obtain ⟨n, hn1, hn5, rfl, hb, hno⟩ := hrel
    have HNO := Lib.hid hno
    clear hno
    by_cases hlt : n ≤ 4 ∧ k + n ≤ s.size
    · obtain ⟨hn4, hkn⟩ := hlt
      have hbz := hb.size
      obtain ⟨hx1, hx2⟩ := HEX.out n hkn
      have H1 := Lib.hid hx1
      have H2 := Lib.hid hx2
      clear hx1 hx2
      go_wp2_with (first
        | (refine wpList_toBytes rfl (.tmp 33) 9 22 rfl _ rfl 5 Try.underlying9 Try.underlying22 Try.underlying5 (by have := H2.out; omega) ?_; intro w1 c hsl hz1 hg1))
      rw [H2.out, H1.out] at hsl
      have hb1 : Below w.heap.size w w1 := hb.trans (below_of_grown hg1 hbz (by simp))
      refine (guess_calls w1 _ n c (l.take n) hsl hn1 hn4).mono ?_
      rintro e w2 ⟨rfl, hb2⟩
      have hb3 : Below w.heap.size w w2 := hb1.trans (hb2.mono hb1.size)
      have hln : n ≤ l.length := by rw [HLL.out]; omega
      have hlt : (l.take n).length = n := by simp; omega
      clear hsl hg1 hb2
      by_cases hd : (dec l).2 = n
      · have hgi : guessI (l.take n) = (dec l).1 := by
          unfold guessI
          rw [if_pos (by rw [hlt]; exact (dec_take l n hn1 hln).2 hd), dec_take_fst l n hn1 hln hd]
        rw [hgi]
        have hnn : 0 ≤ (dec l).1 := ((scalarB_iff _).1 (dec_yes (l := l) (r := (dec l).1) (n := n) (Prod.ext rfl hd) (by omega)).1).1
        have HD := Lib.hid hd
        clear hd hgi
        obtain ⟨r, hr⟩ : ∃ r, r = (dec l).1 := ⟨_, rfl⟩
        rw [← hr] at hnn ⊢
        have HR := Lib.hid hr
        clear hr hlt
        go_wp2_with fail
        go_ret2
        exact ⟨by rw [HD.out, HR.out]; rfl, hb3⟩
      · have hgi : guessI (l.take n) = -1 := by
          unfold guessI
          rw [if_neg (by rw [hlt]; exact fun e => hd ((dec_take l n hn1 hln).1 e))]
        rw [hgi]
        have HD := Lib.hid hd
        clear hd hgi hlt
        go_wp2_with fail
        go_roundw
        case rel => exact ⟨n + 1, by omega, by omega, by go_num, hb3, fun m h1 h2 h3 => by
          by_cases e : m = n
          · rw [e]; exact HD.out
          · exact HNO.out m h1 (by omega) h3⟩
        case measure => simp [intOf]; omega
    · have hz : dec l = (0, 0) := by
        refine dec_zero ?_
        have h1 := dec_le l
        have h2 := HLL.out
        refine Classical.byContradiction fun h0 => HNO.out (dec l).2 (by omega) ?_ h1.2 rfl
        omega
      have HZ := Lib.hid hz
      clear hz
      have hfin : ∀ w', Below w.heap.size w w' → (Ending.returned (.tuple #[.int .i64 0, .int .i64 0]) = .returned (.tuple #[.int .i64 (dec l).1, .int .i64 (dec l).2]) ∧ Below w.heap.size w w') := fun w' h => ⟨by rw [HZ.out]; rfl, h⟩
      have HF := Lib.hid hfin
      clear hfin
      by_cases h4 : n ≤ 4
      · have h5 : s.size < k + n := by omega
        go_wp2_with fail
        go_ret2
        exact HF.out _ hb
      · go_wp2_with fail
        go_ret2
        exact HF.out _ hb
theorem rnext_out (s : ByteArray) (x : Int) (w : World) (hs : s.size ≤ 9223372036854775807) (h : x < 0 ∨ (s.size : Int) ≤ x) :
    Calls Try.prog 12 #[.string s, .int .i64 x] w fun e w' => e = .returned (.tuple #[.int .i64 0, .int .i64 0]) ∧ w = w' := by
  by_cases h0 : x < 0
  · go_enter Try.func12, Try.ntmps12
    go_wp2
    go_ret2
    exact ⟨rfl, rfl⟩
  · have h1 : (s.size : Int) ≤ x := by omega
    go_enter Try.func12, Try.ntmps12
    go_wp2
    go_ret2
    exact ⟨rfl, rfl⟩
theorem rnext_calls (s : ByteArray) (x : Int) (w : World) (hs : s.size ≤ 140737488351232) :
    Calls Try.prog 12 #[.string s, .int .i64 x] w fun e w' => e = .returned (.tuple #[.int .i64 (nextI s.data.toList x).1, .int .i64 (nextI s.data.toList x).2]) ∧ Below w.heap.size w w' := by
  by_cases h : x < 0 ∨ (s.size : Int) ≤ x
  · have e : nextI s.data.toList x = (0, 0) := by
      rcases h with h | h
      · exact nextI_neg h
      · exact nextI_out (by rw [← Lib.size_eq]; exact h)
    rw [e]
    exact (rnext_out s x w (by omega) h).mono fun e w' ⟨h1, h2⟩ => ⟨h1, h2 ▸ Below.refl _ _⟩
  · obtain ⟨k, rfl⟩ := Int.eq_ofNat_of_zero_le (show 0 ≤ x by omega)
    rw [nextI_at]
    exact rnext_in s k w hs (by omega)
end Go.Proofs.Ythloijpnbljpeaa
