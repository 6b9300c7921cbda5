/- The closures of find, find (written by gen_vb1.py). -/
import Derived.Test.YtlhcejbimlilaaaGreatDoorVbB
import Derived.Laws.EntriesVeiled
set_option linter.unusedVariables false
set_option linter.unusedSimpArgs false
namespace Go.Proofs.YtlhcejbimlilaaaGreatDoor
open Go.RowKit Go.Tk
theorem is1_calls (s : ByteArray) (w : World) : Calls Tryz.prog 47 #[.string s] w fun e w' => e = .returned (.bool true) ∧ Below w.heap.size w w' := by
  go_enter Tryz.func47, Tryz.ntmps47
  go_wp2_with fail
  go_ret
  exact ⟨rfl, Below.refl _ _⟩
theorem is2_calls (s : ByteArray) (w : World) (hs : s.size ≤ 65536) : Calls Tryz.prog 50 #[.string s] w fun e w' => e = .returned (.bool (decP s.data.toList).isSome) ∧ Below w.heap.size w w' := by
  have h := fun w => decimal_calls s w (by omega)
  obtain ⟨⟨mb, md, mp, mi, mn⟩, hM⟩ : ∃ M, M = (decP s.data.toList).getD nmZ := ⟨_, rfl⟩
  obtain ⟨ok, hok⟩ : ∃ b, b = (decP s.data.toList).isSome := ⟨_, rfl⟩
  rw [← hM, ← hok] at h
  rw [← hok]
  unfold Nm.val at h
  dsimp only at h
  have H := Lib.hid h
  clear h hM hok
  go_enter Tryz.func50, Tryz.ntmps50
  go_wp2_with (go_at_call 51; (with_reducible refine (H.out _).mono ?_); rintro e w1 ⟨rfl, hb1⟩)
  go_ret
  exact ⟨rfl, hb1.trans ((Below.refl _ _).alloc hb1.size _)⟩
theorem is3_calls (s : ByteArray) (w : World) (hs : s.size ≤ 65536) : Calls Tryz.prog 53 #[.string s] w fun e w' => e = .returned (.bool (dblP s.data.toList).isSome) ∧ Below w.heap.size w w' := by
  have h := fun w => double_calls s w (by omega)
  obtain ⟨⟨mb, md, mp, mi, mn⟩, hM⟩ : ∃ M, M = (dblP s.data.toList).getD nmZ := ⟨_, rfl⟩
  obtain ⟨ok, hok⟩ : ∃ b, b = (dblP s.data.toList).isSome := ⟨_, rfl⟩
  rw [← hM, ← hok] at h
  rw [← hok]
  unfold Nm.val at h
  dsimp only at h
  have H := Lib.hid h
  clear h hM hok
  go_enter Tryz.func53, Tryz.ntmps53
  go_wp2_with (go_at_call 54; (with_reducible refine (H.out _).mono ?_); rintro e w1 ⟨rfl, hb1⟩)
  go_ret
  exact ⟨rfl, hb1.trans ((Below.refl _ _).alloc hb1.size _)⟩
theorem is4_calls (s : ByteArray) (w : World) (hs : s.size ≤ 65536) : Calls Tryz.prog 56 #[.string s] w fun e w' => e = .returned (.bool (rdDT s.data.toList).isSome) ∧ Below w.heap.size w w' := by
  have h : ∀ w, Calls Tryz.prog 36 #[.string s] w fun e w' => ∃ m : Mt, e = .returned (.tuple #[.agg #[.int .i64 m.sec, .string ⟨m.part.toArray⟩, .bool m.zoned, .int .i64 m.zone, .string ⟨m.sp.toArray⟩], .bool (rdDT s.data.toList).isSome]) ∧ Below w.heap.size w w' := fun w => (readDateTime_calls s w (by omega)).mono fun _ _ h => h.elim fun m ⟨a, _, b⟩ => ⟨m, a, b⟩
  obtain ⟨ok, hok⟩ : ∃ b, b = (rdDT s.data.toList).isSome := ⟨_, rfl⟩
  rw [← hok] at h
  rw [← hok]
  have H := Lib.hid h
  clear h hok
  go_enter Tryz.func56, Tryz.ntmps56
  go_wp2_with (go_at_call 36; (with_reducible refine (H.out _).mono ?_); rintro e w1 ⟨m, rfl, hb1⟩)
  go_ret
  exact ⟨rfl, hb1.trans ((Below.refl _ _).alloc hb1.size _)⟩
theorem is5_calls (s : ByteArray) (w : World) (hs : s.size ≤ 65536) : Calls Tryz.prog 58 #[.string s] w fun e w' => e = .returned (.bool (rdDay s.data.toList).isSome) ∧ Below w.heap.size w w' := by
  have h : ∀ w, Calls Tryz.prog 37 #[.string s] w fun e w' => ∃ m : Mt, e = .returned (.tuple #[.agg #[.int .i64 m.sec, .string ⟨m.part.toArray⟩, .bool m.zoned, .int .i64 m.zone, .string ⟨m.sp.toArray⟩], .bool (rdDay s.data.toList).isSome]) ∧ Below w.heap.size w w' := fun w => (readDay_calls s w (by omega)).mono fun _ _ h => h.elim fun m ⟨a, _, b⟩ => ⟨m, a, b⟩
  obtain ⟨ok, hok⟩ : ∃ b, b = (rdDay s.data.toList).isSome := ⟨_, rfl⟩
  rw [← hok] at h
  rw [← hok]
  have H := Lib.hid h
  clear h hok
  go_enter Tryz.func58, Tryz.ntmps58
  go_wp2_with (go_at_call 37; (with_reducible refine (H.out _).mono ?_); rintro e w1 ⟨m, rfl, hb1⟩)
  go_ret
  exact ⟨rfl, hb1.trans ((Below.refl _ _).alloc hb1.size _)⟩
theorem is6_calls (s : ByteArray) (w : World) (hs : s.size ≤ 65536) : Calls Tryz.prog 60 #[.string s] w fun e w' => e = .returned (.bool (rdClk s.data.toList).isSome) ∧ Below w.heap.size w w' := by
  have h : ∀ w, Calls Tryz.prog 38 #[.string s] w fun e w' => ∃ m : Mt, e = .returned (.tuple #[.agg #[.int .i64 m.sec, .string ⟨m.part.toArray⟩, .bool m.zoned, .int .i64 m.zone, .string ⟨m.sp.toArray⟩], .bool (rdClk s.data.toList).isSome]) ∧ Below w.heap.size w w' := fun w => (readClock_calls s w (by omega)).mono fun _ _ h => h.elim fun m ⟨a, _, b⟩ => ⟨m, a, b⟩
  obtain ⟨ok, hok⟩ : ∃ b, b = (rdClk s.data.toList).isSome := ⟨_, rfl⟩
  rw [← hok] at h
  rw [← hok]
  have H := Lib.hid h
  clear h hok
  go_enter Tryz.func60, Tryz.ntmps60
  go_wp2_with (go_at_call 38; (with_reducible refine (H.out _).mono ?_); rintro e w1 ⟨m, rfl, hb1⟩)
  go_ret
  exact ⟨rfl, hb1.trans ((Below.refl _ _).alloc hb1.size _)⟩
theorem is7_calls (s : ByteArray) (w : World) (hs : s.size ≤ 65536) : Calls Tryz.prog 62 #[.string s] w fun e w' => e = .returned (.bool (hexP (gtP s.data.toList)).isSome) ∧ Below w.heap.size w w' := by
  have h := fun w => hex_calls s w (by omega)
  obtain ⟨T, hT⟩ : ∃ T : ByteArray, T = ⟨((hexP (gtP s.data.toList)).getD []).toArray⟩ := ⟨_, rfl⟩
  obtain ⟨ok, hok⟩ : ∃ b, b = (hexP (gtP s.data.toList)).isSome := ⟨_, rfl⟩
  rw [← hT, ← hok] at h
  rw [← hok]
  have H := Lib.hid h
  clear h hT hok
  go_enter Tryz.func62, Tryz.ntmps62
  go_wp2_with (go_at_call 33; (with_reducible refine (H.out _).mono ?_); rintro e w1 ⟨rfl, hb1⟩)
  go_ret
  exact ⟨rfl, hb1⟩
theorem is8_calls (s : ByteArray) (w : World) (hs : s.size ≤ 65536) : Calls Tryz.prog 64 #[.string s] w fun e w' => e = .returned (.bool (b6R s.data.toList).2) ∧ Below w.heap.size w w' := by
  have h := fun w => base64_calls s w (by omega)
  obtain ⟨T, hT⟩ : ∃ T : ByteArray, T = ⟨(b6R s.data.toList).1.toArray⟩ := ⟨_, rfl⟩
  obtain ⟨ok, hok⟩ : ∃ b, b = (b6R s.data.toList).2 := ⟨_, rfl⟩
  rw [← hT, ← hok] at h
  rw [← hok]
  have H := Lib.hid h
  clear h hT hok
  go_enter Tryz.func64, Tryz.ntmps64
  go_wp2_with (go_at_call 34; (with_reducible refine (H.out _).mono ?_); rintro e w1 ⟨rfl, hb1⟩)
  go_ret
  exact ⟨rfl, hb1⟩
theorem is9_calls (s lo hi : ByteArray) (g1 g2 : Nat) (w : World) (hs : s.size ≤ 65536) (hl : lo.size ≤ 100) (hh : hi.size ≤ 100) (h1 : w.cell? ⟨g1, 0, none⟩ = some (.string lo)) (h2 : w.cell? ⟨g2, 0, none⟩ = some (.string hi)) :
    Calls Tryz.prog 66 #[.string s, .pointer (some ⟨g1, 0, none⟩), .pointer (some ⟨g2, 0, none⟩)] w fun e w' => e = .returned (.bool (witP s.data.toList lo.data.toList hi.data.toList)) ∧ Below w.heap.size w w' := by
  have h := fun w => within_calls s lo hi w hs hl hh
  obtain ⟨ok, hok⟩ : ∃ b, b = witP s.data.toList lo.data.toList hi.data.toList := ⟨_, rfl⟩
  rw [← hok] at h ⊢
  have H := Lib.hid h
  clear h hok
  go_enter Tryz.func66, Tryz.ntmps66
  go_wp2_with (go_at_call 67; (with_reducible refine (H.out _).mono ?_); rintro e w1 ⟨rfl, hb1⟩)
  go_ret
  exact ⟨rfl, hb1⟩
theorem name_calls (s : ByteArray) (w : World) : Calls Tryz.prog 46 #[.string s] w fun e w' => e = .returned (.tuple #[.string ⟨(Lib.trimPrefix s.data.toList xsd).toArray⟩, .bool (Lib.hasPrefix s.data.toList xsd)]) ∧ w = w' := by
  have h : ∀ w, Calls Tryz.prog 85 #[.string s, .string ⟨#[104, 116, 116, 112, 58, 47, 47, 119, 119, 119, 46, 119, 51, 46, 111, 114, 103, 47, 50, 48, 48, 49, 47, 88, 77, 76, 83, 99, 104, 101, 109, 97, 35]⟩] w fun e w' => e = .returned (.tuple #[.string ⟨(Lib.trimPrefix s.data.toList xsd).toArray⟩, .bool (Lib.hasPrefix s.data.toList xsd)]) ∧ w = w' := fun w => cutPre_calls s ⟨#[104, 116, 116, 112, 58, 47, 47, 119, 119, 119, 46, 119, 51, 46, 111, 114, 103, 47, 50, 48, 48, 49, 47, 88, 77, 76, 83, 99, 104, 101, 109, 97, 35]⟩ w
  obtain ⟨T, hT⟩ : ∃ T : ByteArray, T = ⟨(Lib.trimPrefix s.data.toList xsd).toArray⟩ := ⟨_, rfl⟩
  obtain ⟨ok, hok⟩ : ∃ b, b = Lib.hasPrefix s.data.toList xsd := ⟨_, rfl⟩
  rw [← hT, ← hok] at h ⊢
  have H := Lib.hid h
  clear h hT hok
  go_enter Tryz.func46, Tryz.ntmps46
  go_wp2_with (go_at_call 85; (with_reducible refine (H.out _).mono ?_); rintro e w' ⟨rfl, rfl⟩)
  go_ret2
  exact ⟨rfl, rfl⟩
def famK : Kd → Int
  | .str => 0
  | .boo => 1
  | .dec => 2
  | .dbl => 2
  | .dtm => 3
  | .dat => 4
  | .tim => 5
  | .hex => 6
  | .b64 => 7
  | .int _ _ => 2
def isF : Kd → Nat
  | .str => 47
  | .boo => 49
  | .dec => 50
  | .dbl => 53
  | .dtm => 56
  | .dat => 58
  | .tim => 60
  | .hex => 62
  | .b64 => 64
  | .int _ _ => 66
def ownF : Kd → Nat
  | .str => 48
  | .boo => 31
  | .dec => 52
  | .dbl => 55
  | .dtm => 57
  | .dat => 59
  | .tim => 61
  | .hex => 63
  | .b64 => 48
  | .int _ _ => 68
/-- Is a text of a datatype? -/
def isK (k : Kd) (s : List UInt8) : Bool := match k with
  | .str => true
  | .boo => booP s
  | .dec => (decP s).isSome
  | .dbl => (dblP s).isSome
  | .dtm => (rdDT s).isSome
  | .dat => (rdDay s).isSome
  | .tim => (rdClk s).isSome
  | .hex => (hexP (gtP s)).isSome
  | .b64 => (b6R s).2
  | .int lo hi => witP s lo hi
/-- What find answers at a known datatype: a row; its test answers for the text s. -/
def FdRow (s : ByteArray) (k : Kd) (w : World) (e : Ending) (w' : World) : Prop := ∃ caps : Array Value, e = .returned (.tuple #[.agg #[.int .i64 (famK k), .func (.func (isF k)) #[] caps, .func (.func (ownF k)) #[] #[]], .bool true]) ∧ Below w.heap.size w w' ∧
  ∀ w2, Below w'.heap.size w' w2 → Calls Tryz.prog (isF k) (#[.string s] ++ caps) w2 fun e2 w3 => e2 = .returned (.bool (isK k s.data.toList)) ∧ Below w2.heap.size w2 w3
theorem kdL_none {l : List UInt8} (h0 : l ≠ [115, 116, 114, 105, 110, 103]) (h1 : l ≠ [98, 111, 111, 108, 101, 97, 110]) (h2 : l ≠ [100, 101, 99, 105, 109, 97, 108]) (h3 : l ≠ [100, 111, 117, 98, 108, 101]) (h4 : l ≠ [102, 108, 111, 97, 116]) (h5 : l ≠ [100, 97, 116, 101, 84, 105, 109, 101]) (h6 : l ≠ [100, 97, 116, 101]) (h7 : l ≠ [116, 105, 109, 101]) (h8 : l ≠ [104, 101, 120, 66, 105, 110, 97, 114, 121]) (h9 : l ≠ [98, 97, 115, 101, 54, 52, 66, 105, 110, 97, 114, 121]) : kdL l = (endsP l).map fun x => .int x.1 x.2 := by
  unfold kdL
  rw [if_neg h0, if_neg h1, if_neg h2, if_neg h3, if_neg h4, if_neg h5, if_neg h6, if_neg h7, if_neg h8, if_neg h9]
theorem endsP_len {l : List UInt8} {x : List UInt8 × List UInt8} (h : endsP l = some x) : x.1.length ≤ 100 ∧ x.2.length ≤ 100 := by
  unfold endsP at h
  by_cases h0 : l = [105, 110, 116, 101, 103, 101, 114]
  · rw [if_pos h0] at h; obtain rfl := Option.some.inj h; exact ⟨by decide, by decide⟩
  rw [if_neg h0] at h
  by_cases h1 : l = [110, 111, 110, 80, 111, 115, 105, 116, 105, 118, 101, 73, 110, 116, 101, 103, 101, 114]
  · rw [if_pos h1] at h; obtain rfl := Option.some.inj h; exact ⟨by decide, by decide⟩
  rw [if_neg h1] at h
  by_cases h2 : l = [110, 101, 103, 97, 116, 105, 118, 101, 73, 110, 116, 101, 103, 101, 114]
  · rw [if_pos h2] at h; obtain rfl := Option.some.inj h; exact ⟨by decide, by decide⟩
  rw [if_neg h2] at h
  by_cases h3 : l = [110, 111, 110, 78, 101, 103, 97, 116, 105, 118, 101, 73, 110, 116, 101, 103, 101, 114]
  · rw [if_pos h3] at h; obtain rfl := Option.some.inj h; exact ⟨by decide, by decide⟩
  rw [if_neg h3] at h
  by_cases h4 : l = [112, 111, 115, 105, 116, 105, 118, 101, 73, 110, 116, 101, 103, 101, 114]
  · rw [if_pos h4] at h; obtain rfl := Option.some.inj h; exact ⟨by decide, by decide⟩
  rw [if_neg h4] at h
  by_cases h5 : l = [108, 111, 110, 103]
  · rw [if_pos h5] at h; obtain rfl := Option.some.inj h; exact ⟨by decide, by decide⟩
  rw [if_neg h5] at h
  by_cases h6 : l = [105, 110, 116]
  · rw [if_pos h6] at h; obtain rfl := Option.some.inj h; exact ⟨by decide, by decide⟩
  rw [if_neg h6] at h
  by_cases h7 : l = [115, 104, 111, 114, 116]
  · rw [if_pos h7] at h; obtain rfl := Option.some.inj h; exact ⟨by decide, by decide⟩
  rw [if_neg h7] at h
  by_cases h8 : l = [98, 121, 116, 101]
  · rw [if_pos h8] at h; obtain rfl := Option.some.inj h; exact ⟨by decide, by decide⟩
  rw [if_neg h8] at h
  by_cases h9 : l = [117, 110, 115, 105, 103, 110, 101, 100, 76, 111, 110, 103]
  · rw [if_pos h9] at h; obtain rfl := Option.some.inj h; exact ⟨by decide, by decide⟩
  rw [if_neg h9] at h
  by_cases h10 : l = [117, 110, 115, 105, 103, 110, 101, 100, 73, 110, 116]
  · rw [if_pos h10] at h; obtain rfl := Option.some.inj h; exact ⟨by decide, by decide⟩
  rw [if_neg h10] at h
  by_cases h11 : l = [117, 110, 115, 105, 103, 110, 101, 100, 83, 104, 111, 114, 116]
  · rw [if_pos h11] at h; obtain rfl := Option.some.inj h; exact ⟨by decide, by decide⟩
  rw [if_neg h11] at h
  by_cases h12 : l = [117, 110, 115, 105, 103, 110, 101, 100, 66, 121, 116, 101]
  · rw [if_pos h12] at h; obtain rfl := Option.some.inj h; exact ⟨by decide, by decide⟩
  rw [if_neg h12] at h
  cases h
set_option maxHeartbeats 1000000 in
theorem find_no (t : ByteArray) (w : World) (h1 : Lib.hasPrefix t.data.toList xsd = false) :
    Calls Tryz.prog 24 #[.string t] w fun e w' => e = .returned (.tuple #[.agg #[.int .i64 0, .nilFunc, .nilFunc], .bool false]) ∧ Below w.heap.size w w' := by
  have hn := fun w => name_calls t w
  rw [h1] at hn
  have HN := Lib.hid hn
  clear hn h1
  go_enter Tryz.func24, Tryz.ntmps24
  go_wp2_with (go_at_call 46; (with_reducible refine (HN.out _).mono ?_); rintro e w' ⟨rfl, rfl⟩)
  refine bodyPost_ret (v := .tuple #[.agg #[.int .i64 0, .nilFunc, .nilFunc], .bool false]) (by simp [results, Tryz.results24, go_sem]) rfl ⟨rfl, ?_⟩
  repeat (first | with_reducible exact Below.refl _ _ | (with_reducible refine Below.setCell ?_ (by simp) _) | (with_reducible refine Below.alloc ?_ (by simp) _))
set_option maxHeartbeats 4000000 in
theorem find_yes (t s : ByteArray) (k : Kd) (w : World) (hs : s.size ≤ 65536) (h1 : Lib.hasPrefix t.data.toList xsd = true) (hk : kdL (t.data.toList.drop 33) = some k) :
    Calls Tryz.prog 24 #[.string t] w (FdRow s k w) := by
  have htp : Lib.trimPrefix t.data.toList xsd = t.data.toList.drop 33 := by unfold Lib.trimPrefix; rw [h1]; rfl
  have hn := fun w => name_calls t w
  rw [h1, htp] at hn
  clear htp h1
  obtain ⟨L, hL⟩ : ∃ L, L = t.data.toList.drop 33 := ⟨_, rfl⟩
  rw [← hL] at hn hk
  clear hL
  by_cases h0 : L = [115, 116, 114, 105, 110, 103]
  · subst h0
    obtain rfl : k = .str := (Option.some.inj (show some Kd.str = some k from hk)).symm
    have HN := Lib.hid hn
    clear hn hk 
    go_enter Tryz.func24, Tryz.ntmps24
    go_wp2_with (go_at_call 46; (with_reducible refine (HN.out _).mono ?_); rintro e w' ⟨rfl, rfl⟩)
    refine bodyPost_ret (v := .tuple #[.agg #[.int .i64 0, .func (.func 47) #[] #[], .func (.func 48) #[] #[]], .bool true]) (by simp [results, Tryz.results24, go_sem]) rfl ⟨#[], rfl, ?_, fun w2 _ => (is1_calls s w2)⟩
    repeat (first | with_reducible exact Below.refl _ _ | (with_reducible refine Below.setCell ?_ (by simp) _) | (with_reducible refine Below.alloc ?_ (by simp) _))
  by_cases h1 : L = [98, 111, 111, 108, 101, 97, 110]
  · subst h1
    obtain rfl : k = .boo := (Option.some.inj (show some Kd.boo = some k from hk)).symm
    have HN := Lib.hid hn
    clear hn hk h0
    go_enter Tryz.func24, Tryz.ntmps24
    go_wp2_with (go_at_call 46; (with_reducible refine (HN.out _).mono ?_); rintro e w' ⟨rfl, rfl⟩)
    refine bodyPost_ret (v := .tuple #[.agg #[.int .i64 1, .func (.func 49) #[] #[], .func (.func 31) #[] #[]], .bool true]) (by simp [results, Tryz.results24, go_sem]) rfl ⟨#[], rfl, ?_, fun w2 _ => ((boolean_calls s w2).mono fun _ _ ⟨a, b⟩ => ⟨a, b ▸ Below.refl _ _⟩)⟩
    repeat (first | with_reducible exact Below.refl _ _ | (with_reducible refine Below.setCell ?_ (by simp) _) | (with_reducible refine Below.alloc ?_ (by simp) _))
  by_cases h2 : L = [100, 101, 99, 105, 109, 97, 108]
  · subst h2
    obtain rfl : k = .dec := (Option.some.inj (show some Kd.dec = some k from hk)).symm
    have HN := Lib.hid hn
    clear hn hk h0 h1
    go_enter Tryz.func24, Tryz.ntmps24
    go_wp2_with (go_at_call 46; (with_reducible refine (HN.out _).mono ?_); rintro e w' ⟨rfl, rfl⟩)
    refine bodyPost_ret (v := .tuple #[.agg #[.int .i64 2, .func (.func 50) #[] #[], .func (.func 52) #[] #[]], .bool true]) (by simp [results, Tryz.results24, go_sem]) rfl ⟨#[], rfl, ?_, fun w2 _ => (is2_calls s w2 hs)⟩
    repeat (first | with_reducible exact Below.refl _ _ | (with_reducible refine Below.setCell ?_ (by simp) _) | (with_reducible refine Below.alloc ?_ (by simp) _))
  by_cases h3 : L = [100, 111, 117, 98, 108, 101]
  · subst h3
    obtain rfl : k = .dbl := (Option.some.inj (show some Kd.dbl = some k from hk)).symm
    have HN := Lib.hid hn
    clear hn hk h0 h1 h2
    go_enter Tryz.func24, Tryz.ntmps24
    go_wp2_with (go_at_call 46; (with_reducible refine (HN.out _).mono ?_); rintro e w' ⟨rfl, rfl⟩)
    refine bodyPost_ret (v := .tuple #[.agg #[.int .i64 2, .func (.func 53) #[] #[], .func (.func 55) #[] #[]], .bool true]) (by simp [results, Tryz.results24, go_sem]) rfl ⟨#[], rfl, ?_, fun w2 _ => (is3_calls s w2 hs)⟩
    repeat (first | with_reducible exact Below.refl _ _ | (with_reducible refine Below.setCell ?_ (by simp) _) | (with_reducible refine Below.alloc ?_ (by simp) _))
  by_cases h4 : L = [102, 108, 111, 97, 116]
  · subst h4
    obtain rfl : k = .dbl := (Option.some.inj (show some Kd.dbl = some k from hk)).symm
    have HN := Lib.hid hn
    clear hn hk h0 h1 h2 h3
    go_enter Tryz.func24, Tryz.ntmps24
    go_wp2_with (go_at_call 46; (with_reducible refine (HN.out _).mono ?_); rintro e w' ⟨rfl, rfl⟩)
    refine bodyPost_ret (v := .tuple #[.agg #[.int .i64 2, .func (.func 53) #[] #[], .func (.func 55) #[] #[]], .bool true]) (by simp [results, Tryz.results24, go_sem]) rfl ⟨#[], rfl, ?_, fun w2 _ => (is3_calls s w2 hs)⟩
    repeat (first | with_reducible exact Below.refl _ _ | (with_reducible refine Below.setCell ?_ (by simp) _) | (with_reducible refine Below.alloc ?_ (by simp) _))
  by_cases h5 : L = [100, 97, 116, 101, 84, 105, 109, 101]
  · subst h5
    obtain rfl : k = .dtm := (Option.some.inj (show some Kd.dtm = some k from hk)).symm
    have HN := Lib.hid hn
    clear hn hk h0 h1 h2 h3 h4
    go_enter Tryz.func24, Tryz.ntmps24
    go_wp2_with (go_at_call 46; (with_reducible refine (HN.out _).mono ?_); rintro e w' ⟨rfl, rfl⟩)
    refine bodyPost_ret (v := .tuple #[.agg #[.int .i64 3, .func (.func 56) #[] #[], .func (.func 57) #[] #[]], .bool true]) (by simp [results, Tryz.results24, go_sem]) rfl ⟨#[], rfl, ?_, fun w2 _ => (is4_calls s w2 hs)⟩
    repeat (first | with_reducible exact Below.refl _ _ | (with_reducible refine Below.setCell ?_ (by simp) _) | (with_reducible refine Below.alloc ?_ (by simp) _))
  by_cases h6 : L = [100, 97, 116, 101]
  · subst h6
    obtain rfl : k = .dat := (Option.some.inj (show some Kd.dat = some k from hk)).symm
    have HN := Lib.hid hn
    clear hn hk h0 h1 h2 h3 h4 h5
    go_enter Tryz.func24, Tryz.ntmps24
    go_wp2_with (go_at_call 46; (with_reducible refine (HN.out _).mono ?_); rintro e w' ⟨rfl, rfl⟩)
    refine bodyPost_ret (v := .tuple #[.agg #[.int .i64 4, .func (.func 58) #[] #[], .func (.func 59) #[] #[]], .bool true]) (by simp [results, Tryz.results24, go_sem]) rfl ⟨#[], rfl, ?_, fun w2 _ => (is5_calls s w2 hs)⟩
    repeat (first | with_reducible exact Below.refl _ _ | (with_reducible refine Below.setCell ?_ (by simp) _) | (with_reducible refine Below.alloc ?_ (by simp) _))
  by_cases h7 : L = [116, 105, 109, 101]
  · subst h7
    obtain rfl : k = .tim := (Option.some.inj (show some Kd.tim = some k from hk)).symm
    have HN := Lib.hid hn
    clear hn hk h0 h1 h2 h3 h4 h5 h6
    go_enter Tryz.func24, Tryz.ntmps24
    go_wp2_with (go_at_call 46; (with_reducible refine (HN.out _).mono ?_); rintro e w' ⟨rfl, rfl⟩)
    refine bodyPost_ret (v := .tuple #[.agg #[.int .i64 5, .func (.func 60) #[] #[], .func (.func 61) #[] #[]], .bool true]) (by simp [results, Tryz.results24, go_sem]) rfl ⟨#[], rfl, ?_, fun w2 _ => (is6_calls s w2 hs)⟩
    repeat (first | with_reducible exact Below.refl _ _ | (with_reducible refine Below.setCell ?_ (by simp) _) | (with_reducible refine Below.alloc ?_ (by simp) _))
  by_cases h8 : L = [104, 101, 120, 66, 105, 110, 97, 114, 121]
  · subst h8
    obtain rfl : k = .hex := (Option.some.inj (show some Kd.hex = some k from hk)).symm
    have HN := Lib.hid hn
    clear hn hk h0 h1 h2 h3 h4 h5 h6 h7
    go_enter Tryz.func24, Tryz.ntmps24
    go_wp2_with (go_at_call 46; (with_reducible refine (HN.out _).mono ?_); rintro e w' ⟨rfl, rfl⟩)
    refine bodyPost_ret (v := .tuple #[.agg #[.int .i64 6, .func (.func 62) #[] #[], .func (.func 63) #[] #[]], .bool true]) (by simp [results, Tryz.results24, go_sem]) rfl ⟨#[], rfl, ?_, fun w2 _ => (is7_calls s w2 hs)⟩
    repeat (first | with_reducible exact Below.refl _ _ | (with_reducible refine Below.setCell ?_ (by simp) _) | (with_reducible refine Below.alloc ?_ (by simp) _))
  by_cases h9 : L = [98, 97, 115, 101, 54, 52, 66, 105, 110, 97, 114, 121]
  · subst h9
    obtain rfl : k = .b64 := (Option.some.inj (show some Kd.b64 = some k from hk)).symm
    have HN := Lib.hid hn
    clear hn hk h0 h1 h2 h3 h4 h5 h6 h7 h8
    go_enter Tryz.func24, Tryz.ntmps24
    go_wp2_with (go_at_call 46; (with_reducible refine (HN.out _).mono ?_); rintro e w' ⟨rfl, rfl⟩)
    refine bodyPost_ret (v := .tuple #[.agg #[.int .i64 7, .func (.func 64) #[] #[], .func (.func 48) #[] #[]], .bool true]) (by simp [results, Tryz.results24, go_sem]) rfl ⟨#[], rfl, ?_, fun w2 _ => (is8_calls s w2 hs)⟩
    repeat (first | with_reducible exact Below.refl _ _ | (with_reducible refine Below.setCell ?_ (by simp) _) | (with_reducible refine Below.alloc ?_ (by simp) _))
  rw [kdL_none h0 h1 h2 h3 h4 h5 h6 h7 h8 h9] at hk
  cases ho : endsP L with
  | none => rw [ho] at hk; cases hk
  | some x =>
  obtain ⟨lo, hi⟩ := x
  rw [ho] at hk
  obtain rfl : k = .int lo hi := (Option.some.inj (show some (Kd.int lo hi) = some k from hk)).symm
  have hlen := endsP_len ho
  obtain ⟨L', hL'⟩ : ∃ l : ByteArray, l = ⟨L.toArray⟩ := ⟨_, rfl⟩
  have hLd : L'.data.toList = L := by rw [hL']
  have e0 : (L'.toList == [115, 116, 114, 105, 110, 103]) = false := st_ne (by rw [hLd]; exact h0)
  have e1 : (L'.toList == [98, 111, 111, 108, 101, 97, 110]) = false := st_ne (by rw [hLd]; exact h1)
  have e2 : (L'.toList == [100, 101, 99, 105, 109, 97, 108]) = false := st_ne (by rw [hLd]; exact h2)
  have e3 : (L'.toList == [100, 111, 117, 98, 108, 101]) = false := st_ne (by rw [hLd]; exact h3)
  have e4 : (L'.toList == [102, 108, 111, 97, 116]) = false := st_ne (by rw [hLd]; exact h4)
  have e5 : (L'.toList == [100, 97, 116, 101, 84, 105, 109, 101]) = false := st_ne (by rw [hLd]; exact h5)
  have e6 : (L'.toList == [100, 97, 116, 101]) = false := st_ne (by rw [hLd]; exact h6)
  have e7 : (L'.toList == [116, 105, 109, 101]) = false := st_ne (by rw [hLd]; exact h7)
  have e8 : (L'.toList == [104, 101, 120, 66, 105, 110, 97, 114, 121]) = false := st_ne (by rw [hLd]; exact h8)
  have e9 : (L'.toList == [98, 97, 115, 101, 54, 52, 66, 105, 110, 97, 114, 121]) = false := st_ne (by rw [hLd]; exact h9)
  have hen := fun w => ends_calls L' w
  rw [hLd, ho] at hen
  rw [← hL'] at hn
  obtain ⟨A, hA⟩ : ∃ l : ByteArray, l = ⟨lo.toArray⟩ := ⟨_, rfl⟩
  obtain ⟨B, hB⟩ : ∃ l : ByteArray, l = ⟨hi.toArray⟩ := ⟨_, rfl⟩
  have hAd : A.data.toList = lo := by rw [hA]
  have hBd : B.data.toList = hi := by rw [hB]
  have hAs : A.size ≤ 100 := by rw [hA, sz_mk]; exact hlen.1
  have hBs : B.size ≤ 100 := by rw [hB, sz_mk]; exact hlen.2
  have hen : ∀ w, Calls Tryz.prog 65 #[.string L'] w fun e w' => e = .returned (.tuple #[.string A, .string B, .bool true]) ∧ w = w' := fun w => by rw [hA, hB]; exact hen w
  have his := fun g1 g2 w2 c1 c2 => is9_calls s A B g1 g2 w2 hs hAs hBs c1 c2
  rw [hAd, hBd] at his
  have HN := Lib.hid hn
  have HE := Lib.hid hen
  have HI := Lib.hid his
  clear hn hen his hA hB hAd hBd hlen hL' hLd hk ho h0 h1 h2 h3 h4 h5 h6 h7 h8 h9
  go_enter Tryz.func24, Tryz.ntmps24
  go_wp2_with (first | (go_at_call 46; (with_reducible refine (HN.out _).mono ?_); rintro e w' ⟨rfl, rfl⟩) | (go_at_call 65; (with_reducible refine (HE.out _).mono ?_); rintro e w' ⟨rfl, rfl⟩))
  refine bodyPost_ret (v := .tuple #[.agg #[.int .i64 2, .func (.func 66) #[] #[.pointer (some ⟨w.heap.size + 1, 0, none⟩), .pointer (some ⟨w.heap.size + 1 + 1, 0, none⟩)], .func (.func 68) #[] #[]], .bool true]) (by simp [results, Tryz.results24, go_sem]) rfl ⟨#[.pointer (some ⟨w.heap.size + 1, 0, none⟩), .pointer (some ⟨w.heap.size + 1 + 1, 0, none⟩)], rfl, ?_, fun w2 hb2 => HI.out _ _ w2 ((hb2.cell (p := ⟨w.heap.size + 1, 0, none⟩) (by simp)).trans (by simp [go_sem])) ((hb2.cell (p := ⟨w.heap.size + 1 + 1, 0, none⟩) (by simp)).trans (by simp [go_sem]))⟩
  repeat (first | with_reducible exact Below.refl _ _ | (with_reducible refine Below.setCell ?_ (by simp) _) | (with_reducible refine Below.alloc ?_ (by first | (simp; done) | (simp; omega)) _))
set_option maxHeartbeats 4000000 in
theorem find_none (t : ByteArray) (w : World) (h1 : Lib.hasPrefix t.data.toList xsd = true) (hk : kdL (t.data.toList.drop 33) = none) :
    Calls Tryz.prog 24 #[.string t] w fun e w' => e = .returned (.tuple #[.agg #[.int .i64 0, .nilFunc, .nilFunc], .bool false]) ∧ Below w.heap.size w w' := by
  have htp : Lib.trimPrefix t.data.toList xsd = t.data.toList.drop 33 := by unfold Lib.trimPrefix; rw [h1]; rfl
  have hn := fun w => name_calls t w
  rw [h1, htp] at hn
  clear htp h1
  obtain ⟨L, hL⟩ : ∃ L, L = t.data.toList.drop 33 := ⟨_, rfl⟩
  rw [← hL] at hn hk
  clear hL
  by_cases h0 : L = [115, 116, 114, 105, 110, 103]
  · subst h0
    cases (show some _ = none from hk)
  by_cases h1 : L = [98, 111, 111, 108, 101, 97, 110]
  · subst h1
    cases (show some _ = none from hk)
  by_cases h2 : L = [100, 101, 99, 105, 109, 97, 108]
  · subst h2
    cases (show some _ = none from hk)
  by_cases h3 : L = [100, 111, 117, 98, 108, 101]
  · subst h3
    cases (show some _ = none from hk)
  by_cases h4 : L = [102, 108, 111, 97, 116]
  · subst h4
    cases (show some _ = none from hk)
  by_cases h5 : L = [100, 97, 116, 101, 84, 105, 109, 101]
  · subst h5
    cases (show some _ = none from hk)
  by_cases h6 : L = [100, 97, 116, 101]
  · subst h6
    cases (show some _ = none from hk)
  by_cases h7 : L = [116, 105, 109, 101]
  · subst h7
    cases (show some _ = none from hk)
  by_cases h8 : L = [104, 101, 120, 66, 105, 110, 97, 114, 121]
  · subst h8
    cases (show some _ = none from hk)
  by_cases h9 : L = [98, 97, 115, 101, 54, 52, 66, 105, 110, 97, 114, 121]
  · subst h9
    cases (show some _ = none from hk)
  rw [kdL_none h0 h1 h2 h3 h4 h5 h6 h7 h8 h9] at hk
  have ho : endsP L = none := by
    cases h : endsP L with
    | none => rfl
    | some x => rw [h] at hk; cases hk
  obtain ⟨L', hL'⟩ : ∃ l : ByteArray, l = ⟨L.toArray⟩ := ⟨_, rfl⟩
  have hLd : L'.data.toList = L := by rw [hL']
  have e0 : (L'.toList == [115, 116, 114, 105, 110, 103]) = false := st_ne (by rw [hLd]; exact h0)
  have e1 : (L'.toList == [98, 111, 111, 108, 101, 97, 110]) = false := st_ne (by rw [hLd]; exact h1)
  have e2 : (L'.toList == [100, 101, 99, 105, 109, 97, 108]) = false := st_ne (by rw [hLd]; exact h2)
  have e3 : (L'.toList == [100, 111, 117, 98, 108, 101]) = false := st_ne (by rw [hLd]; exact h3)
  have e4 : (L'.toList == [102, 108, 111, 97, 116]) = false := st_ne (by rw [hLd]; exact h4)
  have e5 : (L'.toList == [100, 97, 116, 101, 84, 105, 109, 101]) = false := st_ne (by rw [hLd]; exact h5)
  have e6 : (L'.toList == [100, 97, 116, 101]) = false := st_ne (by rw [hLd]; exact h6)
  have e7 : (L'.toList == [116, 105, 109, 101]) = false := st_ne (by rw [hLd]; exact h7)
  have e8 : (L'.toList == [104, 101, 120, 66, 105, 110, 97, 114, 121]) = false := st_ne (by rw [hLd]; exact h8)
  have e9 : (L'.toList == [98, 97, 115, 101, 54, 52, 66, 105, 110, 97, 114, 121]) = false := st_ne (by rw [hLd]; exact h9)
  have hen := fun w => ends_calls L' w
  rw [hLd, ho] at hen
  rw [← hL'] at hn
  have hen : ∀ w, Calls Tryz.prog 65 #[.string L'] w fun e w' => e = .returned (.tuple #[.string ⟨#[48]⟩, .string ⟨#[]⟩, .bool false]) ∧ w = w' := hen
  have HN := Lib.hid hn
  have HE := Lib.hid hen
  clear hn hen hL' hLd hk ho h0 h1 h2 h3 h4 h5 h6 h7 h8 h9
  go_enter Tryz.func24, Tryz.ntmps24
  go_wp2_with (first | (go_at_call 46; (with_reducible refine (HN.out _).mono ?_); rintro e w' ⟨rfl, rfl⟩) | (go_at_call 65; (with_reducible refine (HE.out _).mono ?_); rintro e w' ⟨rfl, rfl⟩))
  refine bodyPost_ret (v := .tuple #[.agg #[.int .i64 0, .nilFunc, .nilFunc], .bool false]) (by simp [results, Tryz.results24, go_sem]) rfl ⟨rfl, ?_⟩
  repeat (first | with_reducible exact Below.refl _ _ | (with_reducible refine Below.setCell ?_ (by simp) _) | (with_reducible refine Below.alloc ?_ (by first | (simp; done) | (simp; omega)) _))
end Go.Proofs.YtlhcejbimlilaaaGreatDoor
