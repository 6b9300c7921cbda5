/- The program's readTime (written by gen_vas.py). -/
import Derived.Test.YtlhcejbimlilaaaGreatDoorVaR
import Derived.Test.YtlhcejbimlilaaaGreatDoorVaF
set_option linter.unusedVariables false
set_option linter.unusedSimpArgs false
namespace Go.Tk
open Go Go.RowKit
def dgC (c : UInt8) : Bool := decide (48 ≤ c) && decide (c ≤ 57)
theorem dgC_iff (c : UInt8) : dgC c = (decide (48 ≤ c.toNat) && decide (c.toNat ≤ 57)) := rfl
theorem dgN_le (l : List UInt8) : dgN l ≤ l.length := by
  unfold dgN
  have := congrArg List.length (List.takeWhile_append_dropWhile (p := fun c : UInt8 => decide (48 ≤ c) && decide (c ≤ 57)) (l := l))
  rw [List.length_append] at this
  omega
theorem dgN_cons (c : UInt8) (t : List UInt8) : dgN (c :: t) = if dgC c = true then dgN t + 1 else 0 := by
  unfold dgN
  rw [List.takeWhile_cons]
  show (if dgC c = true then _ else _ : List UInt8).length = _
  split <;> rfl
theorem dgN_at : ∀ (l : List UInt8) (k : Nat) (h : k < l.length), (k < dgN l → dgC l[k] = true) ∧ (k = dgN l → dgC l[k] = false)
  | [], k, h => absurd h (Nat.not_lt_zero _)
  | c :: t, 0, h => by
    rw [dgN_cons]
    cases hc : dgC c with
    | true => simp [hc]
    | false => simp [hc]
  | c :: t, k + 1, h => by
    rw [dgN_cons]
    cases hc : dgC c with
    | true =>
      have := dgN_at t k (by simpa using h)
      simp only [if_true, List.getElem_cons_succ]
      exact ⟨fun a => this.1 (by omega), fun a => this.2 (by omega)⟩
    | false => simp
def rtV (o : Option (Int × List UInt8 × List UInt8)) : Value := match o with
  | none => .tuple #[.int .i64 0, .string ⟨#[]⟩, .string ⟨#[]⟩, .bool false]
  | some x => .tuple #[.int .i64 x.1, .string ⟨x.2.1.toArray⟩, .string ⟨x.2.2.toArray⟩, .bool true]
/-- What a time says, where its three numbers stand. -/
def rdT2 (h m c : Int) (r : List UInt8) : Option (Int × List UInt8 × List UInt8) := match rdF r with
  | none => none
  | some (p, e) => if h = 24 ∧ (0 < m ∨ 0 < c ∨ p ≠ []) then none else some (h * 3600 + m * 60 + c, p, e)
theorem rdT_eq {s r1 r2 r3 : List UInt8} {h m c : Int} (h1 : twoP s [58] = some (h, r1)) (h2 : twoP r1 [58] = some (m, r2)) (h3 : twoP r2 [] = some (c, r3)) : rdT s = if 59 < m ∨ 59 < c ∨ 24 < h then none else rdT2 h m c r3 := by
  unfold rdT rdH
  by_cases hb : 59 < m ∨ 59 < c ∨ 24 < h
  · simp only [h1, h2, h3, if_pos hb]
  · simp only [h1, h2, h3, if_neg hb]; rfl
theorem rdT_1 {s : List UInt8} (h1 : twoP s [58] = none) : rdT s = none := by unfold rdT rdH; simp only [h1]
theorem rdT_2 {s r1 : List UInt8} {h : Int} (h1 : twoP s [58] = some (h, r1)) (h2 : twoP r1 [58] = none) : rdT s = none := by unfold rdT rdH; simp only [h1, h2]
theorem rdT_3 {s r1 r2 : List UInt8} {h m : Int} (h1 : twoP s [58] = some (h, r1)) (h2 : twoP r1 [58] = some (m, r2)) (h3 : twoP r2 [] = none) : rdT s = none := by unfold rdT rdH; simp only [h1, h2, h3]
end Go.Tk
namespace Go.Proofs.YtlhcejbimlilaaaGreatDoor
open Go.RowKit Go.Tk
theorem two_at (s : ByteArray) (l mk : List UInt8) (w : World) (hs : s.size ≤ 4000000000) (hm : mk.length ≤ 1) (hl : s.data.toList = l) : Calls Tryz.prog 125 #[.string s, .string ⟨mk.toArray⟩] w fun e w' => e = .returned (twV (twoP l mk)) ∧ ∃ n, w' = w.drewN n := by
  have := two_calls s ⟨mk.toArray⟩ w hs (by rw [sz_mk]; exact hm)
  rw [hl] at this
  exact this
set_option maxHeartbeats 4000000 in
set_option maxRecDepth 100000 in
theorem readTime_calls (s : ByteArray) (w : World) (hs : s.size ≤ 4000000000) :
    Calls Tryz.prog 86 #[.string s] w fun e w' => e = .returned (rtV (rdT s.data.toList)) ∧ ∃ n, w' = w.drewN n := by
  have hnil : ∀ mk : List UInt8, mk.length ≤ 1 → ∀ w, Calls Tryz.prog 125 #[.string ⟨#[]⟩, .string ⟨mk.toArray⟩] w fun e w' => e = .returned (.tuple #[.int .i64 0, .string ⟨#[]⟩, .bool false]) ∧ ∃ n, w' = w.drewN n := fun mk hm w => two_at ⟨#[]⟩ [] mk w (by decide) hm rfl
  have HNIL := Lib.hid hnil
  clear hnil
  have ht1 := fun w => two_at s s.data.toList [58] w hs (by decide) rfl
  cases ho1 : twoP s.data.toList [58] with
  | none =>
    rw [rdT_1 ho1]
    rw [ho1] at ht1
    show Calls _ _ _ _ fun e w' => e = .returned (.tuple #[.int .i64 0, .string ⟨#[]⟩, .string ⟨#[]⟩, .bool false]) ∧ _
    have ht1 : ∀ w, Calls Tryz.prog 125 #[.string s, .string ⟨#[58]⟩] w fun e w' => e = .returned (.tuple #[.int .i64 0, .string ⟨#[]⟩, .bool false]) ∧ ∃ n, w' = w.drewN n := ht1
    have ht2 := HNIL.out [58] (by decide)
    have ht3 := HNIL.out [] (by decide)
    have HT1 := Lib.hid ht1
    have HT2 := Lib.hid ht2
    have HT3 := Lib.hid ht3
    clear ht1 ht2 ht3 ho1
    go_enter Tryz.func86, Tryz.ntmps86
    go_wp2_with (first | (go_at_call 125; (with_reducible refine (HT1.out _).mono ?_); rintro e w' ⟨rfl, n1, rfl⟩) | (go_at_call 125; (with_reducible refine (HT2.out _).mono ?_); rintro e w' ⟨rfl, n2, rfl⟩) | (go_at_call 125; (with_reducible refine (HT3.out _).mono ?_); rintro e w' ⟨rfl, n3, rfl⟩))
    refine bodyPost_ret (v := .tuple #[.int .i64 0, .string ⟨#[]⟩, .string ⟨#[]⟩, .bool false]) (by simp [results, Tryz.results86, go_sem]) rfl ⟨rfl, _, rfl⟩
  | some q =>
  obtain ⟨h, r1⟩ := q
  rw [ho1] at ht1
  obtain ⟨bh1, bh2, bh3⟩ := twoP_bd ho1
  rw [← Lib.size_eq] at bh3
  obtain ⟨R1, hR1⟩ : ∃ R : ByteArray, R = ⟨r1.toArray⟩ := ⟨_, rfl⟩
  have hR1d : R1.data.toList = r1 := by rw [hR1]
  have hR1s : R1.size ≤ 4000000000 := by rw [Lib.size_eq, hR1d]; omega
  have ht1 : ∀ w, Calls Tryz.prog 125 #[.string s, .string ⟨#[58]⟩] w fun e w' => e = .returned (.tuple #[.int .i64 h, .string R1, .bool true]) ∧ ∃ n, w' = w.drewN n := fun w => by rw [hR1]; exact ht1 w
  have ht2 := fun w => two_at R1 r1 [58] w hR1s (by decide) hR1d
  have HT1 := Lib.hid ht1
  clear ht1 hR1
  cases ho2 : twoP r1 [58] with
  | none =>
    rw [rdT_2 ho1 ho2]
    rw [ho2] at ht2
    show Calls _ _ _ _ fun e w' => e = .returned (.tuple #[.int .i64 0, .string ⟨#[]⟩, .string ⟨#[]⟩, .bool false]) ∧ _
    have ht2 : ∀ w, Calls Tryz.prog 125 #[.string R1, .string ⟨#[58]⟩] w fun e w' => e = .returned (.tuple #[.int .i64 0, .string ⟨#[]⟩, .bool false]) ∧ ∃ n, w' = w.drewN n := ht2
    have ht3 := HNIL.out [] (by decide)
    have HT2 := Lib.hid ht2
    have HT3 := Lib.hid ht3
    clear ht2 ht3 ho1 ho2 hR1d
    go_enter Tryz.func86, Tryz.ntmps86
    go_wp2_with (first | (go_at_call 125; (with_reducible refine (HT1.out _).mono ?_); rintro e w' ⟨rfl, n1, rfl⟩) | (go_at_call 125; (with_reducible refine (HT2.out _).mono ?_); rintro e w' ⟨rfl, n2, rfl⟩) | (go_at_call 125; (with_reducible refine (HT3.out _).mono ?_); rintro e w' ⟨rfl, n3, rfl⟩))
    refine bodyPost_ret (v := .tuple #[.int .i64 0, .string ⟨#[]⟩, .string ⟨#[]⟩, .bool false]) (by simp [results, Tryz.results86, go_sem]) rfl ⟨rfl, _, rfl⟩
  | some q =>
  obtain ⟨m, r2⟩ := q
  rw [ho2] at ht2
  obtain ⟨bm1, bm2, bm3⟩ := twoP_bd ho2
  obtain ⟨R2, hR2⟩ : ∃ R : ByteArray, R = ⟨r2.toArray⟩ := ⟨_, rfl⟩
  have hR2d : R2.data.toList = r2 := by rw [hR2]
  have hR2s : R2.size ≤ 4000000000 := by rw [Lib.size_eq, hR2d]; omega
  have ht2 : ∀ w, Calls Tryz.prog 125 #[.string R1, .string ⟨#[58]⟩] w fun e w' => e = .returned (.tuple #[.int .i64 m, .string R2, .bool true]) ∧ ∃ n, w' = w.drewN n := fun w => by rw [hR2]; exact ht2 w
  have ht3 := fun w => two_at R2 r2 [] w hR2s (by decide) hR2d
  have HT2 := Lib.hid ht2
  clear ht2 hR2
  cases ho3 : twoP r2 [] with
  | none =>
    rw [rdT_3 ho1 ho2 ho3]
    rw [ho3] at ht3
    show Calls _ _ _ _ fun e w' => e = .returned (.tuple #[.int .i64 0, .string ⟨#[]⟩, .string ⟨#[]⟩, .bool false]) ∧ _
    have ht3 : ∀ w, Calls Tryz.prog 125 #[.string R2, .string ⟨#[]⟩] w fun e w' => e = .returned (.tuple #[.int .i64 0, .string ⟨#[]⟩, .bool false]) ∧ ∃ n, w' = w.drewN n := ht3
    have HT3 := Lib.hid ht3
    clear ht3 ho1 ho2 ho3 hR1d hR2d
    go_enter Tryz.func86, Tryz.ntmps86
    go_wp2_with (first | (go_at_call 125; (with_reducible refine (HT1.out _).mono ?_); rintro e w' ⟨rfl, n1, rfl⟩) | (go_at_call 125; (with_reducible refine (HT2.out _).mono ?_); rintro e w' ⟨rfl, n2, rfl⟩) | (go_at_call 125; (with_reducible refine (HT3.out _).mono ?_); rintro e w' ⟨rfl, n3, rfl⟩))
    refine bodyPost_ret (v := .tuple #[.int .i64 0, .string ⟨#[]⟩, .string ⟨#[]⟩, .bool false]) (by simp [results, Tryz.results86, go_sem]) rfl ⟨rfl, _, rfl⟩
  | some q =>
  obtain ⟨c, r3⟩ := q
  rw [ho3] at ht3
  obtain ⟨bc1, bc2, bc3⟩ := twoP_bd ho3
  obtain ⟨R3, hR3⟩ : ∃ R : ByteArray, R = ⟨r3.toArray⟩ := ⟨_, rfl⟩
  have hR3d : R3.data.toList = r3 := by rw [hR3]
  have hR3s : R3.size ≤ 4000000000 := by rw [Lib.size_eq, hR3d]; omega
  have ht3 : ∀ w, Calls Tryz.prog 125 #[.string R2, .string ⟨#[]⟩] w fun e w' => e = .returned (.tuple #[.int .i64 c, .string R3, .bool true]) ∧ ∃ n, w' = w.drewN n := fun w => by rw [hR3]; exact ht3 w
  have HT3 := Lib.hid ht3
  rw [rdT_eq ho1 ho2 ho3]
  clear ht3 ho1 ho2 ho3 hR1d hR2d bh3 bm3 bc3
  by_cases hbad : 59 < m ∨ 59 < c ∨ 24 < h
  · rw [if_pos hbad]
    show Calls _ _ _ _ fun e w' => e = .returned (.tuple #[.int .i64 0, .string ⟨#[]⟩, .string ⟨#[]⟩, .bool false]) ∧ _
    have hb2 : 59 < m ∨ m ≤ 59 ∧ (59 < c ∨ c ≤ 59 ∧ 24 < h) := by omega
    clear hbad hR3 hR3d
    rcases hb2 with q1 | ⟨q1, q2 | ⟨q2, q3⟩⟩
    all_goals
      go_enter Tryz.func86, Tryz.ntmps86
      go_wp2_with (first | (go_at_call 125; (with_reducible refine (HT1.out _).mono ?_); rintro e w' ⟨rfl, n1, rfl⟩) | (go_at_call 125; (with_reducible refine (HT2.out _).mono ?_); rintro e w' ⟨rfl, n2, rfl⟩) | (go_at_call 125; (with_reducible refine (HT3.out _).mono ?_); rintro e w' ⟨rfl, n3, rfl⟩))
      refine bodyPost_ret (v := .tuple #[.int .i64 0, .string ⟨#[]⟩, .string ⟨#[]⟩, .bool false]) (by simp [results, Tryz.results86, go_sem]) rfl ⟨rfl, _, rfl⟩
  rw [if_neg hbad]
  have q1 : m ≤ 59 := by omega
  have q2 : c ≤ 59 := by omega
  have q3 : h ≤ 24 := by omega
  clear hbad
  have hcp := fun w => cutPre_calls R3 ⟨#[46]⟩ w
  rw [hR3d] at hcp
  obtain ⟨B, hB⟩ : ∃ B : ByteArray, B = ⟨(Lib.trimPrefix r3 [46]).toArray⟩ := ⟨_, rfl⟩
  have hBd : B.data.toList = Lib.trimPrefix r3 [46] := by rw [hB]
  have hcp : ∀ w, Calls Tryz.prog 85 #[.string R3, .string ⟨#[46]⟩] w fun e w' => e = .returned (.tuple #[.string B, .bool (Lib.hasPrefix r3 [46])]) ∧ w = w' := fun w => by rw [hB]; exact hcp w
  cases hdot : Lib.hasPrefix r3 [46] with
  | false =>
    rw [hdot] at hcp
    have hrf : rdF r3 = some ([], r3) := by unfold rdF; rw [hdot]; rfl
    have hr2 : rdT2 h m c r3 = if h = 24 ∧ (0 < m ∨ 0 < c ∨ ([] : List UInt8) ≠ []) then none else some (h * 3600 + m * 60 + c, [], r3) := by unfold rdT2; rw [hrf]
    rw [hr2]
    have HCP := Lib.hid hcp
    clear hcp hB hBd hdot hrf hr2
    by_cases hb : h = 24 ∧ (0 < m ∨ 0 < c ∨ ([] : List UInt8) ≠ [])
    · rw [if_pos hb]
      show Calls _ _ _ _ fun e w' => e = .returned (.tuple #[.int .i64 0, .string ⟨#[]⟩, .string ⟨#[]⟩, .bool false]) ∧ _
      obtain ⟨rfl, hb2⟩ := hb
      have hb3 : 0 < m ∨ m ≤ 0 ∧ 0 < c := by simp at hb2; omega
      clear hb2 hR3 hR3d
      rcases hb3 with q4 | ⟨q4, q5⟩
      all_goals
        go_enter Tryz.func86, Tryz.ntmps86
        go_wp2_with (first | (go_at_call 125; (with_reducible refine (HT1.out _).mono ?_); rintro e w' ⟨rfl, n1, rfl⟩) | (go_at_call 125; (with_reducible refine (HT2.out _).mono ?_); rintro e w' ⟨rfl, n2, rfl⟩) | (go_at_call 125; (with_reducible refine (HT3.out _).mono ?_); rintro e w' ⟨rfl, n3, rfl⟩) | (go_at_call 85; (with_reducible refine (HCP.out _).mono ?_); rintro e w' ⟨rfl, rfl⟩))
        refine bodyPost_ret (v := .tuple #[.int .i64 0, .string ⟨#[]⟩, .string ⟨#[]⟩, .bool false]) (by simp [results, Tryz.results86, go_sem]) rfl ⟨rfl, _, rfl⟩
    · rw [if_neg hb]
      show Calls _ _ _ _ fun e w' => e = .returned (.tuple #[.int .i64 (h * 3600 + m * 60 + c), .string ⟨#[]⟩, .string ⟨r3.toArray⟩, .bool true]) ∧ _
      rw [← hR3]
      have hb3 : h < 24 ∨ h = 24 ∧ m = 0 ∧ c = 0 := by
        by_cases e : h < 24
        · exact .inl e
        · right
          have e24 : h = 24 := by omega
          refine ⟨e24, ?_, ?_⟩
          · by_cases e2 : 0 < m
            · exact absurd ⟨e24, .inl e2⟩ hb
            · omega
          · by_cases e2 : 0 < c
            · exact absurd ⟨e24, .inr (.inl e2)⟩ hb
            · omega
      clear hb hR3 hR3d
      rcases hb3 with q4 | ⟨rfl, rfl, rfl⟩
      · go_enter Tryz.func86, Tryz.ntmps86
        go_wp2_with (first | (go_at_call 125; (with_reducible refine (HT1.out _).mono ?_); rintro e w' ⟨rfl, n1, rfl⟩) | (go_at_call 125; (with_reducible refine (HT2.out _).mono ?_); rintro e w' ⟨rfl, n2, rfl⟩) | (go_at_call 125; (with_reducible refine (HT3.out _).mono ?_); rintro e w' ⟨rfl, n3, rfl⟩) | (go_at_call 85; (with_reducible refine (HCP.out _).mono ?_); rintro e w' ⟨rfl, rfl⟩))
        refine bodyPost_ret (v := .tuple #[.int .i64 (h * 3600 + m * 60 + c), .string ⟨#[]⟩, .string R3, .bool true]) (by simp [results, Tryz.results86, go_sem]) rfl ⟨rfl, _, rfl⟩
      · go_enter Tryz.func86, Tryz.ntmps86
        go_wp2_with (first | (go_at_call 125; (with_reducible refine (HT1.out _).mono ?_); rintro e w' ⟨rfl, n1, rfl⟩) | (go_at_call 125; (with_reducible refine (HT2.out _).mono ?_); rintro e w' ⟨rfl, n2, rfl⟩) | (go_at_call 125; (with_reducible refine (HT3.out _).mono ?_); rintro e w' ⟨rfl, n3, rfl⟩) | (go_at_call 85; (with_reducible refine (HCP.out _).mono ?_); rintro e w' ⟨rfl, rfl⟩))
        refine bodyPost_ret (v := .tuple #[.int .i64 (24 * 3600 + 0 * 60 + 0), .string ⟨#[]⟩, .string R3, .bool true]) (by simp [results, Tryz.results86, go_sem]) rfl ⟨rfl, _, rfl⟩
  | true =>
    rw [hdot] at hcp
    have hBd2 : B.data.toList = r3.drop 1 := by rw [hBd]; unfold Lib.trimPrefix; rw [hdot]; rfl
    have hBs : B.size ≤ 4000000000 := by rw [Lib.size_eq, hBd2, List.length_drop]; rw [Lib.size_eq, hR3d] at hR3s; omega
    have HCP := Lib.hid hcp
    obtain ⟨n, hn⟩ : ∃ n, n = dgN B.data.toList := ⟨_, rfl⟩
    have hnB : n ≤ B.size := by rw [hn, Lib.size_eq]; exact dgN_le _
    have hrf : rdF r3 = if n = 0 then none else some (tr0 (B.data.toList.take n), B.data.toList.drop n) := by unfold rdF; rw [hdot, if_pos rfl, ← hBd2, ← hn]
    have hat := fun k (hk : k < B.data.toList.length) => dgN_at B.data.toList k hk
    rw [← hn] at hat
    have HAT := Lib.hid hat
    clear hcp hB hBd hdot hR3 hR3d hBd2 hn hat
    obtain ⟨O, hO⟩ : ∃ O, O = rdT2 h m c r3 := ⟨_, rfl⟩
    have hOe : O = match rdF r3 with | none => none | some (p, e) => if h = 24 ∧ (0 < m ∨ 0 < c ∨ p ≠ []) then none else some (h * 3600 + m * 60 + c, p, e) := hO
    rw [hrf] at hOe
    rw [← hO]
    have HOE := Lib.hid hOe
    clear hO hOe hrf
    go_enter Tryz.func86, Tryz.ntmps86
    go_wp2_with (first | (go_at_call 125; (with_reducible refine (HT1.out _).mono ?_); rintro e w' ⟨rfl, n1, rfl⟩) | (go_at_call 125; (with_reducible refine (HT2.out _).mono ?_); rintro e w' ⟨rfl, n2, rfl⟩) | (go_at_call 125; (with_reducible refine (HT3.out _).mono ?_); rintro e w' ⟨rfl, n3, rfl⟩) | (go_at_call 85; (with_reducible refine (HCP.out _).mono ?_); rintro e w' ⟨rfl, rfl⟩))
    go_loop [16] (fun i => ∃ k : Nat, k ≤ n ∧ i = .int .i64 (k : Nat)) (fun i => n - (intOf i).toNat)
    case atStart => exact ⟨0, Nat.zero_le _, rfl⟩
    case round =>
      obtain ⟨k, hk, rfl⟩ := hrel
      by_cases hkn : k < n
      · have hkB : k < B.size := by omega
        have hd := (HAT.out k (by rw [← Lib.size_eq]; exact hkB)).1 hkn
        rw [ba_get B k hkB, dgC_iff] at hd
        simp only [Bool.and_eq_true, decide_eq_true_eq] at hd
        obtain ⟨x, hx⟩ : ∃ x : Int, (((B[k]'hkB).toNat : Nat) : Int) = x := ⟨_, rfl⟩
        have hd1 : 48 ≤ x := by omega
        have hd2 : x ≤ 57 := by omega
        clear hd
        go_wp2_with fail
        go_round
        case rel => exact ⟨k + 1, by omega, by go_num⟩
        case measure => simp [intOf]; omega
      obtain rfl : k = n := by omega
      have hend : ¬ k < B.size ∨ ∃ hkB : k < B.size, (((B[k]'hkB).toNat : Nat) : Int) < 48 ∨ 48 ≤ (((B[k]'hkB).toNat : Nat) : Int) ∧ 57 < (((B[k]'hkB).toNat : Nat) : Int) := by
        by_cases hkB : k < B.size
        · right
          refine ⟨hkB, ?_⟩
          have hd := (HAT.out k (by rw [← Lib.size_eq]; exact hkB)).2 rfl
          rw [ba_get B k hkB, dgC_iff] at hd
          by_cases h1 : (B[k]'hkB).toNat < 48
          · left; omega
          · right
            rw [decide_eq_true (by omega)] at hd
            have h2 := of_decide_eq_false (show decide ((B[k]'hkB).toNat ≤ 57) = false from hd)
            omega
        · exact .inl hkB
      by_cases hk0 : k = 0
      · subst hk0
        have hfin : O = none := by rw [HOE.out]; rfl
        subst hfin
        clear HOE hkn
        rcases hend with hend | ⟨hkB, he | ⟨he1, he2⟩⟩
        · have hz : B.size ≤ 0 := by omega
          go_wp2_with fail
          refine bodyPost_ret (v := .tuple #[.int .i64 0, .string ⟨#[]⟩, .string ⟨#[]⟩, .bool false]) (by simp [results, Tryz.results86, go_sem]) rfl ⟨rfl, _, rfl⟩
        · obtain ⟨x, hx⟩ : ∃ x : Int, (((B[0]'hkB).toNat : Nat) : Int) = x := ⟨_, rfl⟩
          rw [hx] at he
          go_wp2_with fail
          refine bodyPost_ret (v := .tuple #[.int .i64 0, .string ⟨#[]⟩, .string ⟨#[]⟩, .bool false]) (by simp [results, Tryz.results86, go_sem]) rfl ⟨rfl, _, rfl⟩
        · obtain ⟨x, hx⟩ : ∃ x : Int, (((B[0]'hkB).toNat : Nat) : Int) = x := ⟨_, rfl⟩
          rw [hx] at he1 he2
          go_wp2_with fail
          refine bodyPost_ret (v := .tuple #[.int .i64 0, .string ⟨#[]⟩, .string ⟨#[]⟩, .bool false]) (by simp [results, Tryz.results86, go_sem]) rfl ⟨rfl, _, rfl⟩
      have hk1 : 0 < k := by omega
      have hoe : O = if h = 24 ∧ (0 < m ∨ 0 < c ∨ tr0 (B.data.toList.take k) ≠ []) then none else some (h * 3600 + m * 60 + c, tr0 (B.data.toList.take k), B.data.toList.drop k) := by rw [HOE.out, if_neg hk0]
      have x1 := ex_take B k
      have x2 := ex_drop B k
      obtain ⟨P, hP⟩ : ∃ P, B.extract 0 k = P := ⟨_, rfl⟩
      obtain ⟨E, hE⟩ : ∃ E, B.extract k B.size = E := ⟨_, rfl⟩
      rw [hP] at x1
      rw [hE] at x2
      have hPd : P.data.toList = B.data.toList.take k := by rw [x1]
      have hPs : P.size ≤ 4000000000 := by rw [Lib.size_eq, hPd, List.length_take, ← Lib.size_eq]; omega
      have htr := fun w => trimR_calls P w (by omega)
      rw [hPd] at htr
      have hpe := emp_ba (tr0 (B.data.toList.take k))
      obtain ⟨D, hD⟩ : ∃ D : ByteArray, D = ⟨(tr0 (B.data.toList.take k)).toArray⟩ := ⟨_, rfl⟩
      rw [← hD] at htr hpe
      have hDd : (⟨(tr0 (B.data.toList.take k)).toArray⟩ : ByteArray) = D := hD.symm
      have hEd : (⟨(B.data.toList.drop k).toArray⟩ : ByteArray) = E := x2.symm
      obtain ⟨T, hT⟩ : ∃ T, T = tr0 (B.data.toList.take k) := ⟨_, rfl⟩
      rw [← hT] at hoe hpe hDd
      obtain ⟨U, hU⟩ : ∃ U, U = B.data.toList.drop k := ⟨_, rfl⟩
      rw [← hU] at hoe hEd
      have HTR := Lib.hid htr
      have HOE2 := Lib.hid hoe
      have HDD := Lib.hid hDd
      have HED := Lib.hid hEd
      clear HOE hkn hoe x1 x2 hPd htr hD hDd hEd hT hU HAT hk0
      rcases hend with hend | ⟨hkB, he | ⟨he1, he2⟩⟩
      · have hz : B.size ≤ k := by omega
        go_upto_region 14 with fail
        generalize hw4 : World.drewN w _ = w4
        have HW4 := Lib.hid hw4
        clear hw4
        go_quiet (first | exact rfl | (go_at_call 82; exact quiet_eq (HTR.out _)))
        have hoe := HOE2.out
        by_cases hb : h = 24 ∧ (0 < m ∨ 0 < c ∨ T ≠ [])
        · rw [if_pos hb] at hoe
          subst hoe
          obtain ⟨rfl, hb2⟩ := hb
          have hb3 : 0 < m ∨ m ≤ 0 ∧ (0 < c ∨ c ≤ 0 ∧ (D.toList == []) = false) := by
            by_cases e1 : 0 < m
            · exact .inl e1
            · right
              refine ⟨by omega, ?_⟩
              by_cases e2 : 0 < c
              · exact .inl e2
              · refine .inr ⟨by omega, ?_⟩
                rw [hpe]
                refine decide_eq_false fun e3 => ?_
                rcases hb2 with g | g | g
                · exact e1 g
                · exact e2 g
                · exact g e3
          clear hb2 hpe HOE2
          rcases hb3 with q4 | ⟨q4, q5 | ⟨q5, q6⟩⟩
          all_goals
            go_wp2_with fail
            refine bodyPost_ret (v := .tuple #[.int .i64 0, .string ⟨#[]⟩, .string ⟨#[]⟩, .bool false]) (by simp [results, Tryz.results86, go_sem]) rfl ⟨rfl, _, by rw [← HW4.out, World.drewN_drewN]⟩
        · rw [if_neg hb] at hoe
          subst hoe
          have hb3 : h < 24 ∨ h = 24 ∧ m = 0 ∧ c = 0 ∧ (D.toList == []) = true := by
            by_cases e : h < 24
            · exact .inl e
            · right
              have e24 : h = 24 := by omega
              refine ⟨e24, ?_, ?_, ?_⟩
              · by_cases e2 : 0 < m
                · exact absurd ⟨e24, .inl e2⟩ hb
                · omega
              · by_cases e2 : 0 < c
                · exact absurd ⟨e24, .inr (.inl e2)⟩ hb
                · omega
              · rw [hpe]
                by_cases e2 : T = []
                · exact decide_eq_true e2
                · exact absurd ⟨e24, .inr (.inr e2)⟩ hb
          clear hb hpe HOE2
          rcases hb3 with q4 | ⟨rfl, rfl, rfl, q6⟩
          · go_wp2_with fail
            refine bodyPost_ret (v := .tuple #[.int .i64 (h * 3600 + m * 60 + c), .string D, .string E, .bool true]) (by simp [results, Tryz.results86, go_sem]) rfl ⟨by rw [← HDD.out, ← HED.out]; rfl, _, by rw [← HW4.out, World.drewN_drewN]⟩
          · go_wp2_with fail
            refine bodyPost_ret (v := .tuple #[.int .i64 (24 * 3600 + 0 * 60 + 0), .string D, .string E, .bool true]) (by simp [results, Tryz.results86, go_sem]) rfl ⟨by rw [← HDD.out, ← HED.out]; rfl, _, by rw [← HW4.out, World.drewN_drewN]⟩
      · obtain ⟨x, hx⟩ : ∃ x : Int, (((B[k]'hkB).toNat : Nat) : Int) = x := ⟨_, rfl⟩
        rw [hx] at he
        go_upto_region 14 with fail
        generalize hw4 : World.drewN w _ = w4
        have HW4 := Lib.hid hw4
        clear hw4
        go_quiet (first | exact rfl | (go_at_call 82; exact quiet_eq (HTR.out _)))
        have hoe := HOE2.out
        by_cases hb : h = 24 ∧ (0 < m ∨ 0 < c ∨ T ≠ [])
        · rw [if_pos hb] at hoe
          subst hoe
          obtain ⟨rfl, hb2⟩ := hb
          have hb3 : 0 < m ∨ m ≤ 0 ∧ (0 < c ∨ c ≤ 0 ∧ (D.toList == []) = false) := by
            by_cases e1 : 0 < m
            · exact .inl e1
            · right
              refine ⟨by omega, ?_⟩
              by_cases e2 : 0 < c
              · exact .inl e2
              · refine .inr ⟨by omega, ?_⟩
                rw [hpe]
                refine decide_eq_false fun e3 => ?_
                rcases hb2 with g | g | g
                · exact e1 g
                · exact e2 g
                · exact g e3
          clear hb2 hpe HOE2
          rcases hb3 with q4 | ⟨q4, q5 | ⟨q5, q6⟩⟩
          all_goals
            go_wp2_with fail
            refine bodyPost_ret (v := .tuple #[.int .i64 0, .string ⟨#[]⟩, .string ⟨#[]⟩, .bool false]) (by simp [results, Tryz.results86, go_sem]) rfl ⟨rfl, _, by rw [← HW4.out, World.drewN_drewN]⟩
        · rw [if_neg hb] at hoe
          subst hoe
          have hb3 : h < 24 ∨ h = 24 ∧ m = 0 ∧ c = 0 ∧ (D.toList == []) = true := by
            by_cases e : h < 24
            · exact .inl e
            · right
              have e24 : h = 24 := by omega
              refine ⟨e24, ?_, ?_, ?_⟩
              · by_cases e2 : 0 < m
                · exact absurd ⟨e24, .inl e2⟩ hb
                · omega
              · by_cases e2 : 0 < c
                · exact absurd ⟨e24, .inr (.inl e2)⟩ hb
                · omega
              · rw [hpe]
                by_cases e2 : T = []
                · exact decide_eq_true e2
                · exact absurd ⟨e24, .inr (.inr e2)⟩ hb
          clear hb hpe HOE2
          rcases hb3 with q4 | ⟨rfl, rfl, rfl, q6⟩
          · go_wp2_with fail
            refine bodyPost_ret (v := .tuple #[.int .i64 (h * 3600 + m * 60 + c), .string D, .string E, .bool true]) (by simp [results, Tryz.results86, go_sem]) rfl ⟨by rw [← HDD.out, ← HED.out]; rfl, _, by rw [← HW4.out, World.drewN_drewN]⟩
          · go_wp2_with fail
            refine bodyPost_ret (v := .tuple #[.int .i64 (24 * 3600 + 0 * 60 + 0), .string D, .string E, .bool true]) (by simp [results, Tryz.results86, go_sem]) rfl ⟨by rw [← HDD.out, ← HED.out]; rfl, _, by rw [← HW4.out, World.drewN_drewN]⟩
      · obtain ⟨x, hx⟩ : ∃ x : Int, (((B[k]'hkB).toNat : Nat) : Int) = x := ⟨_, rfl⟩
        rw [hx] at he1 he2
        go_upto_region 14 with fail
        generalize hw4 : World.drewN w _ = w4
        have HW4 := Lib.hid hw4
        clear hw4
        go_quiet (first | exact rfl | (go_at_call 82; exact quiet_eq (HTR.out _)))
        have hoe := HOE2.out
        by_cases hb : h = 24 ∧ (0 < m ∨ 0 < c ∨ T ≠ [])
        · rw [if_pos hb] at hoe
          subst hoe
          obtain ⟨rfl, hb2⟩ := hb
          have hb3 : 0 < m ∨ m ≤ 0 ∧ (0 < c ∨ c ≤ 0 ∧ (D.toList == []) = false) := by
            by_cases e1 : 0 < m
            · exact .inl e1
            · right
              refine ⟨by omega, ?_⟩
              by_cases e2 : 0 < c
              · exact .inl e2
              · refine .inr ⟨by omega, ?_⟩
                rw [hpe]
                refine decide_eq_false fun e3 => ?_
                rcases hb2 with g | g | g
                · exact e1 g
                · exact e2 g
                · exact g e3
          clear hb2 hpe HOE2
          rcases hb3 with q4 | ⟨q4, q5 | ⟨q5, q6⟩⟩
          all_goals
            go_wp2_with fail
            refine bodyPost_ret (v := .tuple #[.int .i64 0, .string ⟨#[]⟩, .string ⟨#[]⟩, .bool false]) (by simp [results, Tryz.results86, go_sem]) rfl ⟨rfl, _, by rw [← HW4.out, World.drewN_drewN]⟩
        · rw [if_neg hb] at hoe
          subst hoe
          have hb3 : h < 24 ∨ h = 24 ∧ m = 0 ∧ c = 0 ∧ (D.toList == []) = true := by
            by_cases e : h < 24
            · exact .inl e
            · right
              have e24 : h = 24 := by omega
              refine ⟨e24, ?_, ?_, ?_⟩
              · by_cases e2 : 0 < m
                · exact absurd ⟨e24, .inl e2⟩ hb
                · omega
              · by_cases e2 : 0 < c
                · exact absurd ⟨e24, .inr (.inl e2)⟩ hb
                · omega
              · rw [hpe]
                by_cases e2 : T = []
                · exact decide_eq_true e2
                · exact absurd ⟨e24, .inr (.inr e2)⟩ hb
          clear hb hpe HOE2
          rcases hb3 with q4 | ⟨rfl, rfl, rfl, q6⟩
          · go_wp2_with fail
            refine bodyPost_ret (v := .tuple #[.int .i64 (h * 3600 + m * 60 + c), .string D, .string E, .bool true]) (by simp [results, Tryz.results86, go_sem]) rfl ⟨by rw [← HDD.out, ← HED.out]; rfl, _, by rw [← HW4.out, World.drewN_drewN]⟩
          · go_wp2_with fail
            refine bodyPost_ret (v := .tuple #[.int .i64 (24 * 3600 + 0 * 60 + 0), .string D, .string E, .bool true]) (by simp [results, Tryz.results86, go_sem]) rfl ⟨by rw [← HDD.out, ← HED.out]; rfl, _, by rw [← HW4.out, World.drewN_drewN]⟩
end Go.Proofs.YtlhcejbimlilaaaGreatDoor
