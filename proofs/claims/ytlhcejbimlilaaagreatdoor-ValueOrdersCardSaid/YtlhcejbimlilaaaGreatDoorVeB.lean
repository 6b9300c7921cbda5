/- VdW VgO VeB, laid as one. -/
import Derived.Test.YtlhcejbimlilaaaGreatDoorVgC
import Derived.Test.YtlhcejbimlilaaaGreatDoorVeA
import Derived.Test.YtlhcejbimlilaaaGreatDoorQuL
set_option linter.unusedVariables false
set_option linter.unusedSimpArgs false
/- The document's is, given what hexed and base64 answer. -/
namespace Go.Proofs.YtlhcejbimlilaaaGreatDoor
open Go.RowKit Go.Tk
def KdGood : Kd → Bool
  | .int lo hi => (decide (lo = []) || (intP lo).isSome) && (decide (hi = []) || (intP hi).isSome) && decide (lo.length ≤ 100) && decide (hi.length ≤ 100)
  | _ => true
theorem ki_good (k : Nat) (hk : k < 23) : KdGood (kiD k) = true :=
  ki_cases (P := fun k => KdGood (kiD k) = true) (by kernel_rfl) (by kernel_rfl) (by kernel_rfl) (by kernel_rfl) (by kernel_rfl) (by kernel_rfl) (by kernel_rfl) (by kernel_rfl) (by kernel_rfl) (by kernel_rfl) (by kernel_rfl) (by kernel_rfl) (by kernel_rfl) (by kernel_rfl) (by kernel_rfl) (by kernel_rfl) (by kernel_rfl) (by kernel_rfl) (by kernel_rfl) (by kernel_rfl) (by kernel_rfl) (by kernel_rfl) (by kernel_rfl) k hk
theorem kd_good {t : List UInt8} {k : Kd} (h : kdOf t = some k) : KdGood k = true := by
  by_cases hx : ∃ j, j < 23 ∧ t = xsd ++ kiN j
  · obtain ⟨j, hj, e⟩ := hx
    rw [e, ki_yes j hj] at h
    obtain rfl := Option.some.inj h
    exact ki_good j hj
  · have := ki_no (t := t) fun j hj e => hx ⟨j, hj, e⟩
    rw [this] at h; cases h
def isO (o : Option Kd) (s : List UInt8) : Bool := match o with
  | none => true
  | some k => isK k s
abbrev TwoB (F : Nat) (args : Array Value) (b : Bool) : Prop := ∀ w, Calls Tryz.prog F args w fun e w' => ∃ V, e = .returned (.tuple #[V, .bool b]) ∧ Below w.heap.size w w'
theorem two_re {F : Nat} {args : Array Value} {b : Bool} {P : Mo8 → Prop} (h : ∀ w, Calls Tryz.prog F args w (RePost b P w)) : TwoB F args b := fun w => (h w).mono fun e w' ⟨m, h1, h2, _⟩ => ⟨_, h1, h2⟩
/-- The document's is. -/
theorem ris_calls {t : List UInt8} (o : Option Kd) (ho : kdOf t = o) (nm s : ByteArray) (w : World) (hs : s.size ≤ 65536)
    (hx : TwoB 42 #[.string s] (hexP (gtP s.data.toList)).isSome) (hb : TwoB 43 #[.string s] (b6R s.data.toList).2) :
    Calls Tryz.prog 26 #[.agg #[.string nm, .int .i64 (lkO o), .string ⟨(loO o).toArray⟩, .string ⟨(hiO o).toArray⟩], .string s] w fun e w' => e = .returned (.bool (isO o s.data.toList)) ∧ Below w.heap.size w w' := by
  cases o with
  | none => exact is_0 nm _ _ s w
  | some k =>
    have hg := kd_good ho
    cases k with
    | str => exact is_1 nm _ _ s w
    | boo =>
      have hv : isO (some .boo) s.data.toList = booP s.data.toList := rfl
      rw [hv]
      unfold booP
      by_cases h1 : s.data.toList = tTrue
      · have e : s = ⟨#[116, 114, 117, 101]⟩ := by rw [← str_mk s, h1]; rfl
        rw [h1]
        exact is_2a nm _ _ s w e
      by_cases h2 : s.data.toList = tFalse
      · have e : s = ⟨#[102, 97, 108, 115, 101]⟩ := by rw [← str_mk s, h2]; rfl
        rw [h2]
        exact is_2b nm _ _ s w e
      by_cases h3 : s.data.toList = [49]
      · have e : s = ⟨#[49]⟩ := by rw [← str_mk s, h3]
        rw [h3]
        exact is_2c nm _ _ s w e
      by_cases h4 : s.data.toList = [48]
      · have e : s = ⟨#[48]⟩ := by rw [← str_mk s, h4]
        rw [h4]
        exact is_2d nm _ _ s w e
      · have e : (s.data.toList == tTrue || s.data.toList == tFalse || s.data.toList == [49] || s.data.toList == [48]) = false := by
          rw [beq_false_of_ne h1, beq_false_of_ne h2, beq_false_of_ne h3, beq_false_of_ne h4]; rfl
        rw [e]
        exact is_2n nm _ _ s w (st_ne8 h1) (st_ne8 h2) (st_ne8 h3) (st_ne8 h4)
    | dec => exact is_3 nm _ _ s w _ fun w => (rdecimal_calls s 0 w (by omega) (by omega) (by omega)).mono fun e w' h => ⟨_, h.1, h.2⟩
    | dbl => exact is_5 nm _ _ s w _ fun w => (rdouble_calls s w (by omega)).mono fun e w' h => ⟨_, h.1, h.2⟩
    | dtm => exact is_6 nm _ _ s w _ (two_re fun w => read_dt w s hs)
    | dat => exact is_7 nm _ _ s w _ (two_re fun w => read_day w s hs)
    | tim => exact is_8 nm _ _ s w _ (two_re fun w => read_clk w s hs)
    | hex => exact is_9 nm _ _ s w _ hx
    | b64 => exact is_10 nm _ _ s w _ hb
    | int lo hi =>
      have hin := fun w => rinteger_calls s w (by omega)
      have hi2 : (intP s.data.toList).isSome = (!(sgnR s.data.toList).isEmpty && dgB (sgnR s.data.toList)) := by
        unfold intP
        cases (!(sgnR s.data.toList).isEmpty && dgB (sgnR s.data.toList)) <;> rfl
      rw [← hi2] at hin
      have hv : isO (some (.int lo hi)) s.data.toList = witP s.data.toList lo hi := rfl
      rw [hv]
      cases hn : intP s.data.toList with
      | none =>
        rw [hn] at hin
        have e : witP s.data.toList lo hi = false := by unfold witP; rw [hn]
        rw [e]
        exact is_4n nm _ _ s w hin
      | some n =>
        rw [hn] at hin
        unfold KdGood at hg
        simp only [Bool.and_eq_true, Bool.or_eq_true, decide_eq_true_eq] at hg
        obtain ⟨⟨⟨g1, g2⟩, g3⟩, g4⟩ := hg
        have hw := fun w => rwithin_calls nm ⟨lo.toArray⟩ ⟨hi.toArray⟩ s 4 w hn hs (by rw [sz_mk]; exact g3) (by rw [sz_mk]; exact g4)
          (g1.imp id fun h => Option.isSome_iff_exists.1 h) (g2.imp id fun h => Option.isSome_iff_exists.1 h)
        exact is_4y nm _ _ s w _ hin hw
end Go.Proofs.YtlhcejbimlilaaaGreatDoor
/- The document's own of a boolean (written by gen_vff.py). -/
namespace Go.Proofs.YtlhcejbimlilaaaGreatDoor
open Go.RowKit Go.Tk
set_option maxRecDepth 100000 in
set_option maxHeartbeats 4000000 in
theorem own_2a (n lo hi s : ByteArray) (w : World) (hs : s = ⟨#[49]⟩) :
    Calls Tryz.prog 27 #[.agg #[.string n, .int .i64 2, .string lo, .string hi], .string s] w fun e w' => e = .returned (.tuple #[.string ⟨#[116, 114, 117, 101]⟩, .int .i64 0]) ∧ Below w.heap.size w w' := by
  subst hs
  go_enter Tryz.func27, Tryz.ntmps27
  go_upto_region 1 with fail
  obtain ⟨rk, hb⟩ := box1 w (.cells #[.string n, .int .i64 2, .string lo, .string hi] 48)
  generalize World.alloc w _ = w2 at rk hb ⊢
  have k1 := row_cell rk 1
  simp at k1
  have HB := Lib.hid hb
  have RK := Lib.hid rk
  clear rk hb
  go_wp2_with fail
  go_ret2
  exact ⟨rfl, HB.out⟩
set_option maxRecDepth 100000 in
set_option maxHeartbeats 4000000 in
theorem own_2b (n lo hi s : ByteArray) (w : World) (hs : s = ⟨#[116, 114, 117, 101]⟩) :
    Calls Tryz.prog 27 #[.agg #[.string n, .int .i64 2, .string lo, .string hi], .string s] w fun e w' => e = .returned (.tuple #[.string ⟨#[116, 114, 117, 101]⟩, .int .i64 0]) ∧ Below w.heap.size w w' := by
  subst hs
  go_enter Tryz.func27, Tryz.ntmps27
  go_upto_region 1 with fail
  obtain ⟨rk, hb⟩ := box1 w (.cells #[.string n, .int .i64 2, .string lo, .string hi] 48)
  generalize World.alloc w _ = w2 at rk hb ⊢
  have k1 := row_cell rk 1
  simp at k1
  have HB := Lib.hid hb
  have RK := Lib.hid rk
  clear rk hb
  go_wp2_with fail
  go_ret2
  exact ⟨rfl, HB.out⟩
set_option maxRecDepth 100000 in
set_option maxHeartbeats 4000000 in
theorem own_2n (n lo hi s : ByteArray) (w : World) (h1 : (s.toList == [49]) = false) (h2 : (s.toList == [116, 114, 117, 101]) = false) :
    Calls Tryz.prog 27 #[.agg #[.string n, .int .i64 2, .string lo, .string hi], .string s] w fun e w' => e = .returned (.tuple #[.string ⟨#[102, 97, 108, 115, 101]⟩, .int .i64 0]) ∧ Below w.heap.size w w' := by
  go_enter Tryz.func27, Tryz.ntmps27
  go_upto_region 1 with fail
  obtain ⟨rk, hb⟩ := box1 w (.cells #[.string n, .int .i64 2, .string lo, .string hi] 48)
  generalize World.alloc w _ = w2 at rk hb ⊢
  have k1 := row_cell rk 1
  simp at k1
  have HB := Lib.hid hb
  have RK := Lib.hid rk
  clear rk hb
  go_wp2_with fail
  go_ret2
  exact ⟨rfl, HB.out⟩
end Go.Proofs.YtlhcejbimlilaaaGreatDoor
/- The document's base64: does it take a text (written by gen_veb.py). -/
namespace Go.Tk
open Go Go.RowKit
theorem eq_step {L : List UInt8} {j : Nat} (hj : j ≤ L.length - (tre L).length) (h : j < L.length) : L[L.length - 1 - j]'(by omega) = 61 ↔ j + 1 ≤ L.length - (tre L).length := by
  obtain ⟨k, hk⟩ := tre_app L
  have hl : L.length = (tre L).length + k := by
    have := congrArg List.length hk
    rw [List.length_append, List.length_replicate] at this
    exact this
  have hg : L[L.length - 1 - j]'(by omega) = (tre L ++ List.replicate k 61)[L.length - 1 - j]'(by rw [← hk]; omega) := by congr 1
  constructor
  · intro h61
    rcases Nat.lt_or_ge j k with h1 | h1
    · omega
    · exfalso
      have hjk : j = k := by omega
      have hne : tre L ≠ [] := fun e => by rw [e] at hl; simp at hl; omega
      have hlast : (tre L).getLast hne ≠ 61 := by
        have e : tre L = (L.reverse.dropWhile (· == 61)).reverse := rfl
        have hd : L.reverse.dropWhile (· == 61) ≠ [] := fun e2 => hne (by rw [e, e2]; rfl)
        have := List.head_dropWhile_not (fun c : UInt8 => c == 61) hd
        intro e3
        have e4 : (tre L).getLast hne = (L.reverse.dropWhile (· == 61)).head hd := by
          simp only [e, List.getLast_reverse]
        rw [e4] at e3
        rw [e3] at this
        simp at this
      apply hlast
      rw [List.getLast_eq_getElem]
      rw [hg, List.getElem_append_left (by omega)] at h61
      rw [← h61]
      congr 1
      omega
  · intro h1
    rw [hg, List.getElem_append_right (by omega), List.getElem_replicate]
end Go.Tk
namespace Go.Proofs.YtlhcejbimlilaaaGreatDoor
open Go.RowKit Go.Tk
set_option maxRecDepth 100000 in
set_option maxHeartbeats 8000000 in
theorem base64_V (s : ByteArray) (w : World) (hs : s.size ≤ 65536) : Calls Tryz.prog 43 #[.string s] w fun e w' => ∃ V, e = .returned (.tuple #[V, .bool (b6R s.data.toList).2]) ∧ Below w.heap.size w w' ∧ ((b6R s.data.toList).2 = true → Ow .u8 5 w.heap.size w' V (nums (b6R s.data.toList).1)) := by
  have hls : s.data.toList.length = s.size := (Lib.size_eq s).symm
  have hcut := b6_cut s.data.toList
  have hct2 := b6_cut2 s.data.toList
  rw [hls] at hcut hct2
  obtain ⟨ok, hok⟩ : ∃ ok, ok = (b6R s.data.toList).2 := ⟨_, rfl⟩
  obtain ⟨bs, hbs⟩ : ∃ bs, bs = (b6R s.data.toList).1 := ⟨_, rfl⟩
  rw [← hok] at hcut hct2 ⊢
  rw [← hbs] at hct2 ⊢
  by_cases h4 : s.size % 4 ≠ 0
  · rw [if_pos h4] at hcut
    subst hcut
    have p4 : ((s.size : Int) % 4 != 0) = true := by rw [bne_iff_ne]; omega
    clear h4 hok hls hct2 hbs
    go_enter Tryz.func43, Tryz.ntmps43
    go_wp2_with fail
    go_ret2
    exact ⟨_, rfl, Below.refl _ _, fun h => (by cases h)⟩
  rw [if_neg h4] at hcut
  have p4 : ((s.size : Int) % 4 != 0) = false := by rw [bne_eq_false_iff_eq]; omega
  have HCUT := Lib.hid hcut
  have HCT2 := Lib.hid hct2
  have HLS := Lib.hid hls
  clear h4 hok hcut hls hct2 hbs
  go_enter Tryz.func43, Tryz.ntmps43
  go_wp2_with fail
  go_loop [4] (fun n => ∃ j : Nat, j ≤ 2 ∧ j ≤ s.size ∧ n = .int .i64 ((s.size - j : Nat) : Int) ∧ j ≤ s.data.toList.length - (tre s.data.toList).length) (fun n => (intOf n).toNat)
  case atStart => exact ⟨0, by omega, by omega, rfl, by omega⟩
  case round =>
    obtain ⟨j, hj2, hjs, rfl, hjt⟩ := hrel
    obtain ⟨n, hn⟩ : ∃ n, n = s.size - j := ⟨_, rfl⟩
    rw [← hn]
    by_cases hc : j < 2 ∧ 0 < n
    · obtain ⟨hc1, hc2⟩ := hc
      have hpl : n - 1 < s.size := by omega
      obtain ⟨p, hp⟩ : ∃ p, p = n - 1 := ⟨_, rfl⟩
      rw [← hp] at hpl
      have hstep := eq_step hjt (by rw [HLS.out]; omega)
      have hge : s.data.toList[s.data.toList.length - 1 - j]'(by rw [HLS.out]; omega) = s[p] := by
        rw [← ba_get s p hpl]
        congr 1
        rw [HLS.out]; omega
      rw [hge] at hstep
      have kp : IntKind.i64.wrap ((n : Int) - 1) = (p : Int) := by rw [IntKind.wrap_i64]; omega
      have kp2 : (n : Int) - 1 = (p : Int) := by omega
      have ks : IntKind.i64.wrap ((s.size : Int) - 2) = (s.size : Int) - 2 := by rw [IntKind.wrap_i64]; omega
      have g1 : 0 < (n : Int) := by omega
      have g2 : (s.size : Int) - 2 < (n : Int) := by omega
      have t61 : (61 : UInt8).toNat = 61 := rfl
      by_cases c61 : s[p] = 61
      · have x1 : (((s[p]).toNat : Nat) : Int) = 61 := by rw [c61]; rfl
        have hnx := hstep.1 c61
        have HNX := Lib.hid hnx
        have HP := Lib.hid hp
        have HNN := Lib.hid hn
        clear hstep hge c61 hnx hp hn
        go_wp2_with fail
        go_round
        case rel => exact ⟨j + 1, by omega, by have := HNN.out; omega, by have := HP.out; have := HNN.out; congr 1; omega, HNX.out⟩
        case measure => have := HP.out; simp [intOf]; omega
      · have x1 : ((((s[p]).toNat : Nat) : Int) == 61) = false := beq_false_of_ne fun e => c61 (UInt8.toNat.inj (by omega))
        have x2 : ¬ (((s[p]).toNat : Nat) : Int) = 61 := fun e => c61 (UInt8.toNat.inj (by omega))
        have heq : eqN s.data.toList = j := by
          have h1 : ¬ j + 1 ≤ s.data.toList.length - (tre s.data.toList).length := fun h => c61 (hstep.2 h)
          unfold eqN; omega
        have hO0 := HCUT.out
        rw [heq, ← hn] at hO0
        have hO2 := HCT2.out
        rw [heq, ← hn] at hO2
        obtain ⟨O, hO⟩ : ∃ O, O = b6F 0 0 (s.data.toList.take n) := ⟨_, rfl⟩
        rw [← hO] at hO0 hO2
        have HOB := Lib.hid hO2
        have HOK := Lib.hid hO0
        have HO := Lib.hid hO
        have hns : n ≤ s.size := by omega
        have hbl : (s.data.toList.take n).length = n := by rw [List.length_take, HLS.out]; omega
        have HBL := Lib.hid hbl
        clear hO0 hO hO2 heq hbl
        clear hstep hge c61 hp hn
        go_wp2_with fail
        clear x1 x2 kp kp2 ks g1 g2
        go_loopw [5, 6, 7, 8, 9, 10] (fun v bt hd i _ _ wr => ∃ (k : Nat) (acc : List UInt8) (B H : Nat), k ≤ n ∧ acc.length ≤ k ∧ (H = 0 ∨ H = 2 ∨ H = 4 ∨ H = 6) ∧ B < 2 ^ H ∧ bt = .int .i64 (B : Nat) ∧ hd = .int .i64 (H : Nat) ∧ i = .int .i64 (k : Nat) ∧ Ow .u8 5 w.heap.size wr v (nums acc) ∧ Below w.heap.size w wr ∧ O = (b6F B H ((s.data.toList.take n).drop k)).map (fun q => (q.1, acc ++ q.2))) (fun _ _ _ i _ _ _ => n - (intOf i).toNat)
        case atStart => exact ⟨0, [], 0, 0, Nat.zero_le _, Nat.le_refl _, .inl rfl, by decide, rfl, rfl, rfl, Ow.nil _ _ _ _, Below.refl _ _, by rw [HO.out]; simp⟩
        case round =>
          obtain ⟨k, acc, B, H, hk, hal, hH, hB, rfl, rfl, rfl, how, hbw, hoe⟩ := hrel
          have HOW := Lib.hid how
          have HBW := Lib.hid hbw
          by_cases hlt : k < n
          · have hks : k < s.size := by omega
            have hz0 : k < (s.data.toList.take n).length := by rw [HBL.out]; exact hlt
            have hd1 : (s.data.toList.take n).drop k = s[k] :: (s.data.toList.take n).drop (k + 1) := by
              rw [List.drop_eq_getElem_cons hz0, List.getElem_take, ba_get s _ hks]
            rw [hd1] at hoe
            obtain ⟨c, hc⟩ : ∃ c, s[k] = c := ⟨_, rfl⟩
            obtain ⟨x, hx⟩ : ∃ x : Int, (((s[k]).toNat : Nat) : Int) = x := ⟨_, rfl⟩
            have hcx : (c.toNat : Int) = x := by rw [← hc]; exact hx
            rw [hc] at hoe
            have HCX := Lib.hid hcx
            have HOE := Lib.hid hoe
            clear hcx hc hoe hd1 hz0 how hbw
            go_wp2_with fail
            go_loopw [9, 10] (fun vv kk w2 => ∃ q : Nat, q ≤ 64 ∧ kk = .int .i64 (q : Nat) ∧ vv = .int .i64 (b6D c q) ∧ Below wr.heap.size wr w2) (fun _ kk _ => 64 - (intOf kk).toNat)
            case atStart => exact ⟨0, Nat.zero_le _, rfl, rfl, Below.refl _ _⟩
            case round =>
              obtain ⟨q, hq, rfl, rfl, hb2⟩ := hrel
              by_cases hq64 : q < 64
              · have HB2 := Lib.hid hb2
                clear hb2
                have hqU : q < (⟨#[65, 66, 67, 68, 69, 70, 71, 72, 73, 74, 75, 76, 77, 78, 79, 80, 81, 82, 83, 84, 85, 86, 87, 88, 89, 90, 97, 98, 99, 100, 101, 102, 103, 104, 105, 106, 107, 108, 109, 110, 111, 112, 113, 114, 115, 116, 117, 118, 119, 120, 121, 122, 48, 49, 50, 51, 52, 53, 54, 55, 56, 57, 43, 47]⟩ : ByteArray).size := hq64
                have eU : (⟨#[65, 66, 67, 68, 69, 70, 71, 72, 73, 74, 75, 76, 77, 78, 79, 80, 81, 82, 83, 84, 85, 86, 87, 88, 89, 90, 97, 98, 99, 100, 101, 102, 103, 104, 105, 106, 107, 108, 109, 110, 111, 112, 113, 114, 115, 116, 117, 118, 119, 120, 121, 122, 48, 49, 50, 51, 52, 53, 54, 55, 56, 57, 43, 47]⟩ : ByteArray)[q]'hqU = b6T.getD q 0 := by
                  rw [← ba_get (⟨#[65, 66, 67, 68, 69, 70, 71, 72, 73, 74, 75, 76, 77, 78, 79, 80, 81, 82, 83, 84, 85, 86, 87, 88, 89, 90, 97, 98, 99, 100, 101, 102, 103, 104, 105, 106, 107, 108, 109, 110, 111, 112, 113, 114, 115, 116, 117, 118, 119, 120, 121, 122, 48, 49, 50, 51, 52, 53, 54, 55, 56, 57, 43, 47]⟩ : ByteArray) q hqU, List.getD_eq_getElem?_getD, List.getElem?_eq_getElem (by show q < 64; exact hq64)]; rfl
                have hD : b6D c (q + 1) = if b6T.getD q 0 = c then (q : Int) else b6D c q := rfl
                rw [← eU] at hD
                have e1 : (((((⟨#[65, 66, 67, 68, 69, 70, 71, 72, 73, 74, 75, 76, 77, 78, 79, 80, 81, 82, 83, 84, 85, 86, 87, 88, 89, 90, 97, 98, 99, 100, 101, 102, 103, 104, 105, 106, 107, 108, 109, 110, 111, 112, 113, 114, 115, 116, 117, 118, 119, 120, 121, 122, 48, 49, 50, 51, 52, 53, 54, 55, 56, 57, 43, 47]⟩ : ByteArray)[q]'hqU).toNat : Nat) : Int) == x) = decide ((⟨#[65, 66, 67, 68, 69, 70, 71, 72, 73, 74, 75, 76, 77, 78, 79, 80, 81, 82, 83, 84, 85, 86, 87, 88, 89, 90, 97, 98, 99, 100, 101, 102, 103, 104, 105, 106, 107, 108, 109, 110, 111, 112, 113, 114, 115, 116, 117, 118, 119, 120, 121, 122, 48, 49, 50, 51, 52, 53, 54, 55, 56, 57, 43, 47]⟩ : ByteArray)[q]'hqU = c) := by
                  have := HCX.out
                  by_cases qq : (⟨#[65, 66, 67, 68, 69, 70, 71, 72, 73, 74, 75, 76, 77, 78, 79, 80, 81, 82, 83, 84, 85, 86, 87, 88, 89, 90, 97, 98, 99, 100, 101, 102, 103, 104, 105, 106, 107, 108, 109, 110, 111, 112, 113, 114, 115, 116, 117, 118, 119, 120, 121, 122, 48, 49, 50, 51, 52, 53, 54, 55, 56, 57, 43, 47]⟩ : ByteArray)[q]'hqU = c
                  · rw [decide_eq_true qq, qq, this]; exact beq_self_eq_true _
                  · rw [decide_eq_false qq]
                    exact beq_false_of_ne fun e => qq (UInt8.toNat.inj (by omega))
                clear eU
                by_cases m1 : (⟨#[65, 66, 67, 68, 69, 70, 71, 72, 73, 74, 75, 76, 77, 78, 79, 80, 81, 82, 83, 84, 85, 86, 87, 88, 89, 90, 97, 98, 99, 100, 101, 102, 103, 104, 105, 106, 107, 108, 109, 110, 111, 112, 113, 114, 115, 116, 117, 118, 119, 120, 121, 122, 48, 49, 50, 51, 52, 53, 54, 55, 56, 57, 43, 47]⟩ : ByteArray)[q]'hqU = c
                · rw [decide_eq_true m1] at e1
                  rw [if_pos m1] at hD
                  have HD := Lib.hid hD
                  clear m1 hD
                  go_upto_region 16 with fail
                  refine wp_region_lw (by kernel_rfl) (by kernel_rfl) ?_
                  repeat (go_big_quiet_step (first | exact rfl))
                  refine wpQuiet_nil ?_
                  rintro ⟨w3, hb3⟩
                  dsimp only
                  have hb4 := HB2.out.trans (hb3.mono HB2.out.size)
                  have HB4 := Lib.hid hb4
                  clear hb3 hb4 HB2
                  go_wp2_with fail
                  go_roundw
                  case rel => exact ⟨q + 1, by omega, by go_num, by rw [HD.out], HB4.out⟩
                  case measure => simp [intOf]; omega
                · rw [decide_eq_false m1] at e1
                  rw [if_neg m1] at hD
                  have HD := Lib.hid hD
                  clear m1 hD
                  go_upto_region 16 with fail
                  refine wp_region_lw (by kernel_rfl) (by kernel_rfl) ?_
                  repeat (go_big_quiet_step (first | exact rfl))
                  refine wpQuiet_nil ?_
                  rintro ⟨w3, hb3⟩
                  dsimp only
                  have hb4 := HB2.out.trans (hb3.mono HB2.out.size)
                  have HB4 := Lib.hid hb4
                  clear hb3 hb4 HB2
                  go_wp2_with fail
                  go_roundw
                  case rel => exact ⟨q + 1, by omega, by go_num, by rw [HD.out], HB4.out⟩
                  case measure => simp [intOf]; omega
              · have hq64' : q = 64 := by omega
                subst hq64'
                rw [b6D_all]
                have how2 := HOW.out.below hb2 (fun g hg => (HOW.out.lt g hg).2)
                have hbw2 := HBW.out.trans (hb2.mono HBW.out.size)
                have HOW2 := Lib.hid how2
                have HBW2 := Lib.hid hbw2
                have bda := b6V_bd c
                clear how2 hbw2 hb2 hq
                obtain ⟨v, hv⟩ : ∃ v, v = b6V c := ⟨_, rfl⟩
                rw [← hv] at bda ⊢
                by_cases v0 : v < 0
                · have hf : O = none := by rw [HOE.out, b6F_bad (by rw [← hv]; exact v0)]; rfl
                  have hkf := HOK.out
                  rw [hf] at hkf
                  replace hkf : ok = false := hkf
                  subst hkf
                  clear hf hv HOE hH hB bda
                  go_wp2_with fail
                  go_ret2
                  exact ⟨_, rfl, HBW2.out, fun h => (by cases h)⟩
                · have hb0 : 0 ≤ b6V c := by rw [← hv]; omega
                  obtain ⟨m, hm⟩ : ∃ m : Nat, v = m := ⟨v.toNat, by omega⟩
                  have hxm : (b6V c).toNat = m := by rw [← hv, hm]; rfl
                  subst hm
                  have hm64 : m < 64 := by omega
                  have HBV := Lib.hid hb0
                  have HXM := Lib.hid hxm
                  clear hb0 hxm hv bda v0
                  rcases hH with rfl | rfl | rfl | rfl
                  ·
                    have hB2 : B < 1 := by simpa using hB
                    obtain ⟨z, hz⟩ : ∃ z, z = B * 64 + m := ⟨_, rfl⟩
                    have hz0 : (B : Int) * 64 + (m : Int) = (z : Int) := by omega
                    have hz1 : z < 64 := by omega
                    have hst := HOE.out
                    rw [b6F_0 HBV.out, HXM.out, ← hz] at hst
                    have HST := Lib.hid hst
                    have ka : IntKind.i64.wrap ((B : Int) * 64) = (B : Int) * 64 := by rw [IntKind.wrap_i64]; omega
                    have kb : IntKind.i64.wrap (z : Int) = (z : Int) := by rw [IntKind.wrap_i64]; omega
                    clear hst hz HOE hB HBV HXM
                    go_wp2_with fail
                    go_roundw
                    case rel => exact ⟨k + 1, acc, z, 6, by omega, by omega, by omega, hz1, rfl, rfl, by go_num, HOW2.out, HBW2.out, HST.out⟩
                    case measure => simp [intOf]; omega
                  ·
                    have hB2 : B < 4 := by simpa using hB
                    obtain ⟨z, hz⟩ : ∃ z, z = B * 64 + m := ⟨_, rfl⟩
                    have hz0 : (B : Int) * 64 + (m : Int) = (z : Int) := by omega
                    have hz1 : z < 256 := by omega
                    have hst := HOE.out
                    rw [b6F_s (H := 0) HBV.out, HXM.out, ← hz] at hst
                    have hand := and_i64 z 0 (by omega) (by decide)
                    have hand : bits .and .i64 (z : Int) 0 = ((z % 1 : Nat) : Int) := hand
                    obtain ⟨r, hr⟩ : ∃ r, r = z % 1 := ⟨_, rfl⟩
                    rw [← hr] at hand
                    obtain ⟨q, hq⟩ : ∃ q, q = z / 1 := ⟨_, rfl⟩
                    have hqi : (z : Int) / 1 = (q : Int) := by omega
                    have hq1 : q < 256 := by omega
                    have hr1 : r < 1 := by omega
                    have hnew : O = (b6F r 0 ((s.data.toList.take n).drop (k + 1))).map (fun y => (y.1, (acc ++ [UInt8.ofNat (q : Int).toNat]) ++ y.2)) := by
                      rw [hst, show z % 2 ^ 0 = r from hr.symm, show z / 2 ^ 0 = q from hq.symm]
                      cases b6F r 0 ((s.data.toList.take n).drop (k + 1)) <;> simp
                    have hnn := nums_one acc (q : Int) (by omega) (by omega)
                    have hal3 : (nums acc).length ≤ 1000000000 := by rw [nums_len]; omega
                    have HNEW := Lib.hid hnew
                    have HNN := Lib.hid hnn
                    have hsz3 : w.heap.size ≤ wr.heap.size := HBW2.out.size
                    have ka : IntKind.i64.wrap ((B : Int) * 64) = (B : Int) * 64 := by rw [IntKind.wrap_i64]; omega
                    have kb : IntKind.i64.wrap (z : Int) = (z : Int) := by rw [IntKind.wrap_i64]; omega
                    clear hst hz hr hq hnew hnn HOE hB HBV HXM
                    go_wp2_with (at_builtin; refine wpList_appJ rfl (.tmp 63) (.tmp 68) _ rfl .u8 w.heap.size 5 _ 1 Tryz.underlying65 Tryz.infoU8 rfl _ (nums acc) rfl (HOW2.out.alloc _) _ 1 1 [(q : Int)] rfl (SlI.one _ _ _ _) (by simp) (by omega) (by omega) (by simp; omega) ?_; intro v4 w4 ow4 hg4 st4; (have OW4 := Lib.hid ow4); (have HG4 := Lib.hid hg4); clear ow4 hg4 st4)
                    go_roundw
                    case rel =>
                      refine ⟨k + 1, acc ++ [UInt8.ofNat (q : Int).toNat], r, 0, by omega, by rw [List.length_append]; simp; omega, by omega, hr1, rfl, rfl, by go_num, by rw [HNN.out]; exact OW4.out, (HBW2.out.alloc (by simpa using hsz3) _).grown HG4.out (by simp; omega) (fun k e => ?_), HNEW.out⟩
                      exact (HOW2.out.lt k e).1
                    case measure => simp [intOf]; omega
                  ·
                    have hB2 : B < 16 := by simpa using hB
                    obtain ⟨z, hz⟩ : ∃ z, z = B * 64 + m := ⟨_, rfl⟩
                    have hz0 : (B : Int) * 64 + (m : Int) = (z : Int) := by omega
                    have hz1 : z < 1024 := by omega
                    have hst := HOE.out
                    rw [b6F_s (H := 2) HBV.out, HXM.out, ← hz] at hst
                    have hand := and_i64 z 2 (by omega) (by decide)
                    have hand : bits .and .i64 (z : Int) 3 = ((z % 4 : Nat) : Int) := hand
                    obtain ⟨r, hr⟩ : ∃ r, r = z % 4 := ⟨_, rfl⟩
                    rw [← hr] at hand
                    obtain ⟨q, hq⟩ : ∃ q, q = z / 4 := ⟨_, rfl⟩
                    have hqi : (z : Int) / 4 = (q : Int) := by omega
                    have hq1 : q < 256 := by omega
                    have hr1 : r < 4 := by omega
                    have hnew : O = (b6F r 2 ((s.data.toList.take n).drop (k + 1))).map (fun y => (y.1, (acc ++ [UInt8.ofNat (q : Int).toNat]) ++ y.2)) := by
                      rw [hst, show z % 2 ^ 2 = r from hr.symm, show z / 2 ^ 2 = q from hq.symm]
                      cases b6F r 2 ((s.data.toList.take n).drop (k + 1)) <;> simp
                    have hnn := nums_one acc (q : Int) (by omega) (by omega)
                    have hal3 : (nums acc).length ≤ 1000000000 := by rw [nums_len]; omega
                    have HNEW := Lib.hid hnew
                    have HNN := Lib.hid hnn
                    have hsz3 : w.heap.size ≤ wr.heap.size := HBW2.out.size
                    have ka : IntKind.i64.wrap ((B : Int) * 64) = (B : Int) * 64 := by rw [IntKind.wrap_i64]; omega
                    have kb : IntKind.i64.wrap (z : Int) = (z : Int) := by rw [IntKind.wrap_i64]; omega
                    clear hst hz hr hq hnew hnn HOE hB HBV HXM
                    go_wp2_with (at_builtin; refine wpList_appJ rfl (.tmp 63) (.tmp 68) _ rfl .u8 w.heap.size 5 _ 1 Tryz.underlying65 Tryz.infoU8 rfl _ (nums acc) rfl (HOW2.out.alloc _) _ 1 1 [(q : Int)] rfl (SlI.one _ _ _ _) (by simp) (by omega) (by omega) (by simp; omega) ?_; intro v4 w4 ow4 hg4 st4; (have OW4 := Lib.hid ow4); (have HG4 := Lib.hid hg4); clear ow4 hg4 st4)
                    go_roundw
                    case rel =>
                      refine ⟨k + 1, acc ++ [UInt8.ofNat (q : Int).toNat], r, 2, by omega, by rw [List.length_append]; simp; omega, by omega, hr1, rfl, rfl, by go_num, by rw [HNN.out]; exact OW4.out, (HBW2.out.alloc (by simpa using hsz3) _).grown HG4.out (by simp; omega) (fun k e => ?_), HNEW.out⟩
                      exact (HOW2.out.lt k e).1
                    case measure => simp [intOf]; omega
                  ·
                    have hB2 : B < 64 := by simpa using hB
                    obtain ⟨z, hz⟩ : ∃ z, z = B * 64 + m := ⟨_, rfl⟩
                    have hz0 : (B : Int) * 64 + (m : Int) = (z : Int) := by omega
                    have hz1 : z < 4096 := by omega
                    have hst := HOE.out
                    rw [b6F_s (H := 4) HBV.out, HXM.out, ← hz] at hst
                    have hand := and_i64 z 4 (by omega) (by decide)
                    have hand : bits .and .i64 (z : Int) 15 = ((z % 16 : Nat) : Int) := hand
                    obtain ⟨r, hr⟩ : ∃ r, r = z % 16 := ⟨_, rfl⟩
                    rw [← hr] at hand
                    obtain ⟨q, hq⟩ : ∃ q, q = z / 16 := ⟨_, rfl⟩
                    have hqi : (z : Int) / 16 = (q : Int) := by omega
                    have hq1 : q < 256 := by omega
                    have hr1 : r < 16 := by omega
                    have hnew : O = (b6F r 4 ((s.data.toList.take n).drop (k + 1))).map (fun y => (y.1, (acc ++ [UInt8.ofNat (q : Int).toNat]) ++ y.2)) := by
                      rw [hst, show z % 2 ^ 4 = r from hr.symm, show z / 2 ^ 4 = q from hq.symm]
                      cases b6F r 4 ((s.data.toList.take n).drop (k + 1)) <;> simp
                    have hnn := nums_one acc (q : Int) (by omega) (by omega)
                    have hal3 : (nums acc).length ≤ 1000000000 := by rw [nums_len]; omega
                    have HNEW := Lib.hid hnew
                    have HNN := Lib.hid hnn
                    have hsz3 : w.heap.size ≤ wr.heap.size := HBW2.out.size
                    have ka : IntKind.i64.wrap ((B : Int) * 64) = (B : Int) * 64 := by rw [IntKind.wrap_i64]; omega
                    have kb : IntKind.i64.wrap (z : Int) = (z : Int) := by rw [IntKind.wrap_i64]; omega
                    clear hst hz hr hq hnew hnn HOE hB HBV HXM
                    go_wp2_with (at_builtin; refine wpList_appJ rfl (.tmp 63) (.tmp 68) _ rfl .u8 w.heap.size 5 _ 1 Tryz.underlying65 Tryz.infoU8 rfl _ (nums acc) rfl (HOW2.out.alloc _) _ 1 1 [(q : Int)] rfl (SlI.one _ _ _ _) (by simp) (by omega) (by omega) (by simp; omega) ?_; intro v4 w4 ow4 hg4 st4; (have OW4 := Lib.hid ow4); (have HG4 := Lib.hid hg4); clear ow4 hg4 st4)
                    go_roundw
                    case rel =>
                      refine ⟨k + 1, acc ++ [UInt8.ofNat (q : Int).toNat], r, 4, by omega, by rw [List.length_append]; simp; omega, by omega, hr1, rfl, rfl, by go_num, by rw [HNN.out]; exact OW4.out, (HBW2.out.alloc (by simpa using hsz3) _).grown HG4.out (by simp; omega) (fun k e => ?_), HNEW.out⟩
                      exact (HOW2.out.lt k e).1
                    case measure => simp [intOf]; omega
          · have hkn : k = n := by omega
            have hfin : O = some (B, acc) := by rw [hoe, List.drop_of_length_le (by rw [HBL.out]; omega)]; simp [b6F]
            have hkf := HOK.out
            rw [hfin] at hkf
            replace hkf : ok = (B == 0) := hkf
            have hob := HOB.out
            rw [hfin] at hob
            replace hob : ok = true → bs = acc := hob
            have hbi : ((B : Int) == 0) = (B == 0) := by rw [Bool.eq_iff_iff, beq_iff_eq, beq_iff_eq]; omega
            rw [← hbi] at hkf
            subst hkf
            have HOB2 := Lib.hid hob
            clear hfin hbi hoe how hbw hob
            go_wp2_with fail
            go_ret2
            exact ⟨_, rfl, HBW.out, fun h => by rw [HOB2.out h]; exact HOW.out⟩
    · have heq : eqN s.data.toList = j := by
        have h1 := HLS.out
        have h2 : (tre s.data.toList).length ≤ s.data.toList.length := tre_le _
        unfold eqN; omega
      by_cases n0 : n = 0
      · have g1 : (n : Int) = 0 := by omega
        have hO0 := HCUT.out
        rw [heq, ← hn] at hO0
        have hO2 := HCT2.out
        rw [heq, ← hn] at hO2
        obtain ⟨O, hO⟩ : ∃ O, O = b6F 0 0 (s.data.toList.take n) := ⟨_, rfl⟩
        rw [← hO] at hO0 hO2
        have HOB := Lib.hid hO2
        have HOK := Lib.hid hO0
        have HO := Lib.hid hO
        have hns : n ≤ s.size := by omega
        have hbl : (s.data.toList.take n).length = n := by rw [List.length_take, HLS.out]; omega
        have HBL := Lib.hid hbl
        clear hO0 hO hO2 heq hbl
        go_wp2_with fail
        clear g1
        go_loopw [5, 6, 7, 8, 9, 10] (fun v bt hd i _ _ wr => ∃ (k : Nat) (acc : List UInt8) (B H : Nat), k ≤ n ∧ acc.length ≤ k ∧ (H = 0 ∨ H = 2 ∨ H = 4 ∨ H = 6) ∧ B < 2 ^ H ∧ bt = .int .i64 (B : Nat) ∧ hd = .int .i64 (H : Nat) ∧ i = .int .i64 (k : Nat) ∧ Ow .u8 5 w.heap.size wr v (nums acc) ∧ Below w.heap.size w wr ∧ O = (b6F B H ((s.data.toList.take n).drop k)).map (fun q => (q.1, acc ++ q.2))) (fun _ _ _ i _ _ _ => n - (intOf i).toNat)
        case atStart => exact ⟨0, [], 0, 0, Nat.zero_le _, Nat.le_refl _, .inl rfl, by decide, rfl, rfl, rfl, Ow.nil _ _ _ _, Below.refl _ _, by rw [HO.out]; simp⟩
        case round =>
          obtain ⟨k, acc, B, H, hk, hal, hH, hB, rfl, rfl, rfl, how, hbw, hoe⟩ := hrel
          have HOW := Lib.hid how
          have HBW := Lib.hid hbw
          by_cases hlt : k < n
          · exfalso; omega
          · have hkn : k = n := by omega
            have hfin : O = some (B, acc) := by rw [hoe, List.drop_of_length_le (by rw [HBL.out]; omega)]; simp [b6F]
            have hkf := HOK.out
            rw [hfin] at hkf
            replace hkf : ok = (B == 0) := hkf
            have hob := HOB.out
            rw [hfin] at hob
            replace hob : ok = true → bs = acc := hob
            have hbi : ((B : Int) == 0) = (B == 0) := by rw [Bool.eq_iff_iff, beq_iff_eq, beq_iff_eq]; omega
            rw [← hbi] at hkf
            subst hkf
            have HOB2 := Lib.hid hob
            clear hfin hbi hoe how hbw hob
            go_wp2_with fail
            go_ret2
            exact ⟨_, rfl, HBW.out, fun h => by rw [HOB2.out h]; exact HOW.out⟩
      · have ks : IntKind.i64.wrap ((s.size : Int) - 2) = (s.size : Int) - 2 := by rw [IntKind.wrap_i64]; omega
        have g1 : 0 < (n : Int) := by omega
        have g2 : (n : Int) ≤ (s.size : Int) - 2 := by omega
        have hO0 := HCUT.out
        rw [heq, ← hn] at hO0
        have hO2 := HCT2.out
        rw [heq, ← hn] at hO2
        obtain ⟨O, hO⟩ : ∃ O, O = b6F 0 0 (s.data.toList.take n) := ⟨_, rfl⟩
        rw [← hO] at hO0 hO2
        have HOB := Lib.hid hO2
        have HOK := Lib.hid hO0
        have HO := Lib.hid hO
        have hns : n ≤ s.size := by omega
        have hbl : (s.data.toList.take n).length = n := by rw [List.length_take, HLS.out]; omega
        have HBL := Lib.hid hbl
        clear hO0 hO hO2 heq hbl
        go_wp2_with fail
        clear g1 g2 ks
        go_loopw [5, 6, 7, 8, 9, 10] (fun v bt hd i _ _ wr => ∃ (k : Nat) (acc : List UInt8) (B H : Nat), k ≤ n ∧ acc.length ≤ k ∧ (H = 0 ∨ H = 2 ∨ H = 4 ∨ H = 6) ∧ B < 2 ^ H ∧ bt = .int .i64 (B : Nat) ∧ hd = .int .i64 (H : Nat) ∧ i = .int .i64 (k : Nat) ∧ Ow .u8 5 w.heap.size wr v (nums acc) ∧ Below w.heap.size w wr ∧ O = (b6F B H ((s.data.toList.take n).drop k)).map (fun q => (q.1, acc ++ q.2))) (fun _ _ _ i _ _ _ => n - (intOf i).toNat)
        case atStart => exact ⟨0, [], 0, 0, Nat.zero_le _, Nat.le_refl _, .inl rfl, by decide, rfl, rfl, rfl, Ow.nil _ _ _ _, Below.refl _ _, by rw [HO.out]; simp⟩
        case round =>
          obtain ⟨k, acc, B, H, hk, hal, hH, hB, rfl, rfl, rfl, how, hbw, hoe⟩ := hrel
          have HOW := Lib.hid how
          have HBW := Lib.hid hbw
          by_cases hlt : k < n
          · have hks : k < s.size := by omega
            have hz0 : k < (s.data.toList.take n).length := by rw [HBL.out]; exact hlt
            have hd1 : (s.data.toList.take n).drop k = s[k] :: (s.data.toList.take n).drop (k + 1) := by
              rw [List.drop_eq_getElem_cons hz0, List.getElem_take, ba_get s _ hks]
            rw [hd1] at hoe
            obtain ⟨c, hc⟩ : ∃ c, s[k] = c := ⟨_, rfl⟩
            obtain ⟨x, hx⟩ : ∃ x : Int, (((s[k]).toNat : Nat) : Int) = x := ⟨_, rfl⟩
            have hcx : (c.toNat : Int) = x := by rw [← hc]; exact hx
            rw [hc] at hoe
            have HCX := Lib.hid hcx
            have HOE := Lib.hid hoe
            clear hcx hc hoe hd1 hz0 how hbw
            go_wp2_with fail
            go_loopw [9, 10] (fun vv kk w2 => ∃ q : Nat, q ≤ 64 ∧ kk = .int .i64 (q : Nat) ∧ vv = .int .i64 (b6D c q) ∧ Below wr.heap.size wr w2) (fun _ kk _ => 64 - (intOf kk).toNat)
            case atStart => exact ⟨0, Nat.zero_le _, rfl, rfl, Below.refl _ _⟩
            case round =>
              obtain ⟨q, hq, rfl, rfl, hb2⟩ := hrel
              by_cases hq64 : q < 64
              · have HB2 := Lib.hid hb2
                clear hb2
                have hqU : q < (⟨#[65, 66, 67, 68, 69, 70, 71, 72, 73, 74, 75, 76, 77, 78, 79, 80, 81, 82, 83, 84, 85, 86, 87, 88, 89, 90, 97, 98, 99, 100, 101, 102, 103, 104, 105, 106, 107, 108, 109, 110, 111, 112, 113, 114, 115, 116, 117, 118, 119, 120, 121, 122, 48, 49, 50, 51, 52, 53, 54, 55, 56, 57, 43, 47]⟩ : ByteArray).size := hq64
                have eU : (⟨#[65, 66, 67, 68, 69, 70, 71, 72, 73, 74, 75, 76, 77, 78, 79, 80, 81, 82, 83, 84, 85, 86, 87, 88, 89, 90, 97, 98, 99, 100, 101, 102, 103, 104, 105, 106, 107, 108, 109, 110, 111, 112, 113, 114, 115, 116, 117, 118, 119, 120, 121, 122, 48, 49, 50, 51, 52, 53, 54, 55, 56, 57, 43, 47]⟩ : ByteArray)[q]'hqU = b6T.getD q 0 := by
                  rw [← ba_get (⟨#[65, 66, 67, 68, 69, 70, 71, 72, 73, 74, 75, 76, 77, 78, 79, 80, 81, 82, 83, 84, 85, 86, 87, 88, 89, 90, 97, 98, 99, 100, 101, 102, 103, 104, 105, 106, 107, 108, 109, 110, 111, 112, 113, 114, 115, 116, 117, 118, 119, 120, 121, 122, 48, 49, 50, 51, 52, 53, 54, 55, 56, 57, 43, 47]⟩ : ByteArray) q hqU, List.getD_eq_getElem?_getD, List.getElem?_eq_getElem (by show q < 64; exact hq64)]; rfl
                have hD : b6D c (q + 1) = if b6T.getD q 0 = c then (q : Int) else b6D c q := rfl
                rw [← eU] at hD
                have e1 : (((((⟨#[65, 66, 67, 68, 69, 70, 71, 72, 73, 74, 75, 76, 77, 78, 79, 80, 81, 82, 83, 84, 85, 86, 87, 88, 89, 90, 97, 98, 99, 100, 101, 102, 103, 104, 105, 106, 107, 108, 109, 110, 111, 112, 113, 114, 115, 116, 117, 118, 119, 120, 121, 122, 48, 49, 50, 51, 52, 53, 54, 55, 56, 57, 43, 47]⟩ : ByteArray)[q]'hqU).toNat : Nat) : Int) == x) = decide ((⟨#[65, 66, 67, 68, 69, 70, 71, 72, 73, 74, 75, 76, 77, 78, 79, 80, 81, 82, 83, 84, 85, 86, 87, 88, 89, 90, 97, 98, 99, 100, 101, 102, 103, 104, 105, 106, 107, 108, 109, 110, 111, 112, 113, 114, 115, 116, 117, 118, 119, 120, 121, 122, 48, 49, 50, 51, 52, 53, 54, 55, 56, 57, 43, 47]⟩ : ByteArray)[q]'hqU = c) := by
                  have := HCX.out
                  by_cases qq : (⟨#[65, 66, 67, 68, 69, 70, 71, 72, 73, 74, 75, 76, 77, 78, 79, 80, 81, 82, 83, 84, 85, 86, 87, 88, 89, 90, 97, 98, 99, 100, 101, 102, 103, 104, 105, 106, 107, 108, 109, 110, 111, 112, 113, 114, 115, 116, 117, 118, 119, 120, 121, 122, 48, 49, 50, 51, 52, 53, 54, 55, 56, 57, 43, 47]⟩ : ByteArray)[q]'hqU = c
                  · rw [decide_eq_true qq, qq, this]; exact beq_self_eq_true _
                  · rw [decide_eq_false qq]
                    exact beq_false_of_ne fun e => qq (UInt8.toNat.inj (by omega))
                clear eU
                by_cases m1 : (⟨#[65, 66, 67, 68, 69, 70, 71, 72, 73, 74, 75, 76, 77, 78, 79, 80, 81, 82, 83, 84, 85, 86, 87, 88, 89, 90, 97, 98, 99, 100, 101, 102, 103, 104, 105, 106, 107, 108, 109, 110, 111, 112, 113, 114, 115, 116, 117, 118, 119, 120, 121, 122, 48, 49, 50, 51, 52, 53, 54, 55, 56, 57, 43, 47]⟩ : ByteArray)[q]'hqU = c
                · rw [decide_eq_true m1] at e1
                  rw [if_pos m1] at hD
                  have HD := Lib.hid hD
                  clear m1 hD
                  go_upto_region 16 with fail
                  refine wp_region_lw (by kernel_rfl) (by kernel_rfl) ?_
                  repeat (go_big_quiet_step (first | exact rfl))
                  refine wpQuiet_nil ?_
                  rintro ⟨w3, hb3⟩
                  dsimp only
                  have hb4 := HB2.out.trans (hb3.mono HB2.out.size)
                  have HB4 := Lib.hid hb4
                  clear hb3 hb4 HB2
                  go_wp2_with fail
                  go_roundw
                  case rel => exact ⟨q + 1, by omega, by go_num, by rw [HD.out], HB4.out⟩
                  case measure => simp [intOf]; omega
                · rw [decide_eq_false m1] at e1
                  rw [if_neg m1] at hD
                  have HD := Lib.hid hD
                  clear m1 hD
                  go_upto_region 16 with fail
                  refine wp_region_lw (by kernel_rfl) (by kernel_rfl) ?_
                  repeat (go_big_quiet_step (first | exact rfl))
                  refine wpQuiet_nil ?_
                  rintro ⟨w3, hb3⟩
                  dsimp only
                  have hb4 := HB2.out.trans (hb3.mono HB2.out.size)
                  have HB4 := Lib.hid hb4
                  clear hb3 hb4 HB2
                  go_wp2_with fail
                  go_roundw
                  case rel => exact ⟨q + 1, by omega, by go_num, by rw [HD.out], HB4.out⟩
                  case measure => simp [intOf]; omega
              · have hq64' : q = 64 := by omega
                subst hq64'
                rw [b6D_all]
                have how2 := HOW.out.below hb2 (fun g hg => (HOW.out.lt g hg).2)
                have hbw2 := HBW.out.trans (hb2.mono HBW.out.size)
                have HOW2 := Lib.hid how2
                have HBW2 := Lib.hid hbw2
                have bda := b6V_bd c
                clear how2 hbw2 hb2 hq
                obtain ⟨v, hv⟩ : ∃ v, v = b6V c := ⟨_, rfl⟩
                rw [← hv] at bda ⊢
                by_cases v0 : v < 0
                · have hf : O = none := by rw [HOE.out, b6F_bad (by rw [← hv]; exact v0)]; rfl
                  have hkf := HOK.out
                  rw [hf] at hkf
                  replace hkf : ok = false := hkf
                  subst hkf
                  clear hf hv HOE hH hB bda
                  go_wp2_with fail
                  go_ret2
                  exact ⟨_, rfl, HBW2.out, fun h => (by cases h)⟩
                · have hb0 : 0 ≤ b6V c := by rw [← hv]; omega
                  obtain ⟨m, hm⟩ : ∃ m : Nat, v = m := ⟨v.toNat, by omega⟩
                  have hxm : (b6V c).toNat = m := by rw [← hv, hm]; rfl
                  subst hm
                  have hm64 : m < 64 := by omega
                  have HBV := Lib.hid hb0
                  have HXM := Lib.hid hxm
                  clear hb0 hxm hv bda v0
                  rcases hH with rfl | rfl | rfl | rfl
                  ·
                    have hB2 : B < 1 := by simpa using hB
                    obtain ⟨z, hz⟩ : ∃ z, z = B * 64 + m := ⟨_, rfl⟩
                    have hz0 : (B : Int) * 64 + (m : Int) = (z : Int) := by omega
                    have hz1 : z < 64 := by omega
                    have hst := HOE.out
                    rw [b6F_0 HBV.out, HXM.out, ← hz] at hst
                    have HST := Lib.hid hst
                    have ka : IntKind.i64.wrap ((B : Int) * 64) = (B : Int) * 64 := by rw [IntKind.wrap_i64]; omega
                    have kb : IntKind.i64.wrap (z : Int) = (z : Int) := by rw [IntKind.wrap_i64]; omega
                    clear hst hz HOE hB HBV HXM
                    go_wp2_with fail
                    go_roundw
                    case rel => exact ⟨k + 1, acc, z, 6, by omega, by omega, by omega, hz1, rfl, rfl, by go_num, HOW2.out, HBW2.out, HST.out⟩
                    case measure => simp [intOf]; omega
                  ·
                    have hB2 : B < 4 := by simpa using hB
                    obtain ⟨z, hz⟩ : ∃ z, z = B * 64 + m := ⟨_, rfl⟩
                    have hz0 : (B : Int) * 64 + (m : Int) = (z : Int) := by omega
                    have hz1 : z < 256 := by omega
                    have hst := HOE.out
                    rw [b6F_s (H := 0) HBV.out, HXM.out, ← hz] at hst
                    have hand := and_i64 z 0 (by omega) (by decide)
                    have hand : bits .and .i64 (z : Int) 0 = ((z % 1 : Nat) : Int) := hand
                    obtain ⟨r, hr⟩ : ∃ r, r = z % 1 := ⟨_, rfl⟩
                    rw [← hr] at hand
                    obtain ⟨q, hq⟩ : ∃ q, q = z / 1 := ⟨_, rfl⟩
                    have hqi : (z : Int) / 1 = (q : Int) := by omega
                    have hq1 : q < 256 := by omega
                    have hr1 : r < 1 := by omega
                    have hnew : O = (b6F r 0 ((s.data.toList.take n).drop (k + 1))).map (fun y => (y.1, (acc ++ [UInt8.ofNat (q : Int).toNat]) ++ y.2)) := by
                      rw [hst, show z % 2 ^ 0 = r from hr.symm, show z / 2 ^ 0 = q from hq.symm]
                      cases b6F r 0 ((s.data.toList.take n).drop (k + 1)) <;> simp
                    have hnn := nums_one acc (q : Int) (by omega) (by omega)
                    have hal3 : (nums acc).length ≤ 1000000000 := by rw [nums_len]; omega
                    have HNEW := Lib.hid hnew
                    have HNN := Lib.hid hnn
                    have hsz3 : w.heap.size ≤ wr.heap.size := HBW2.out.size
                    have ka : IntKind.i64.wrap ((B : Int) * 64) = (B : Int) * 64 := by rw [IntKind.wrap_i64]; omega
                    have kb : IntKind.i64.wrap (z : Int) = (z : Int) := by rw [IntKind.wrap_i64]; omega
                    clear hst hz hr hq hnew hnn HOE hB HBV HXM
                    go_wp2_with (at_builtin; refine wpList_appJ rfl (.tmp 63) (.tmp 68) _ rfl .u8 w.heap.size 5 _ 1 Tryz.underlying65 Tryz.infoU8 rfl _ (nums acc) rfl (HOW2.out.alloc _) _ 1 1 [(q : Int)] rfl (SlI.one _ _ _ _) (by simp) (by omega) (by omega) (by simp; omega) ?_; intro v4 w4 ow4 hg4 st4; (have OW4 := Lib.hid ow4); (have HG4 := Lib.hid hg4); clear ow4 hg4 st4)
                    go_roundw
                    case rel =>
                      refine ⟨k + 1, acc ++ [UInt8.ofNat (q : Int).toNat], r, 0, by omega, by rw [List.length_append]; simp; omega, by omega, hr1, rfl, rfl, by go_num, by rw [HNN.out]; exact OW4.out, (HBW2.out.alloc (by simpa using hsz3) _).grown HG4.out (by simp; omega) (fun k e => ?_), HNEW.out⟩
                      exact (HOW2.out.lt k e).1
                    case measure => simp [intOf]; omega
                  ·
                    have hB2 : B < 16 := by simpa using hB
                    obtain ⟨z, hz⟩ : ∃ z, z = B * 64 + m := ⟨_, rfl⟩
                    have hz0 : (B : Int) * 64 + (m : Int) = (z : Int) := by omega
                    have hz1 : z < 1024 := by omega
                    have hst := HOE.out
                    rw [b6F_s (H := 2) HBV.out, HXM.out, ← hz] at hst
                    have hand := and_i64 z 2 (by omega) (by decide)
                    have hand : bits .and .i64 (z : Int) 3 = ((z % 4 : Nat) : Int) := hand
                    obtain ⟨r, hr⟩ : ∃ r, r = z % 4 := ⟨_, rfl⟩
                    rw [← hr] at hand
                    obtain ⟨q, hq⟩ : ∃ q, q = z / 4 := ⟨_, rfl⟩
                    have hqi : (z : Int) / 4 = (q : Int) := by omega
                    have hq1 : q < 256 := by omega
                    have hr1 : r < 4 := by omega
                    have hnew : O = (b6F r 2 ((s.data.toList.take n).drop (k + 1))).map (fun y => (y.1, (acc ++ [UInt8.ofNat (q : Int).toNat]) ++ y.2)) := by
                      rw [hst, show z % 2 ^ 2 = r from hr.symm, show z / 2 ^ 2 = q from hq.symm]
                      cases b6F r 2 ((s.data.toList.take n).drop (k + 1)) <;> simp
                    have hnn := nums_one acc (q : Int) (by omega) (by omega)
                    have hal3 : (nums acc).length ≤ 1000000000 := by rw [nums_len]; omega
                    have HNEW := Lib.hid hnew
                    have HNN := Lib.hid hnn
                    have hsz3 : w.heap.size ≤ wr.heap.size := HBW2.out.size
                    have ka : IntKind.i64.wrap ((B : Int) * 64) = (B : Int) * 64 := by rw [IntKind.wrap_i64]; omega
                    have kb : IntKind.i64.wrap (z : Int) = (z : Int) := by rw [IntKind.wrap_i64]; omega
                    clear hst hz hr hq hnew hnn HOE hB HBV HXM
                    go_wp2_with (at_builtin; refine wpList_appJ rfl (.tmp 63) (.tmp 68) _ rfl .u8 w.heap.size 5 _ 1 Tryz.underlying65 Tryz.infoU8 rfl _ (nums acc) rfl (HOW2.out.alloc _) _ 1 1 [(q : Int)] rfl (SlI.one _ _ _ _) (by simp) (by omega) (by omega) (by simp; omega) ?_; intro v4 w4 ow4 hg4 st4; (have OW4 := Lib.hid ow4); (have HG4 := Lib.hid hg4); clear ow4 hg4 st4)
                    go_roundw
                    case rel =>
                      refine ⟨k + 1, acc ++ [UInt8.ofNat (q : Int).toNat], r, 2, by omega, by rw [List.length_append]; simp; omega, by omega, hr1, rfl, rfl, by go_num, by rw [HNN.out]; exact OW4.out, (HBW2.out.alloc (by simpa using hsz3) _).grown HG4.out (by simp; omega) (fun k e => ?_), HNEW.out⟩
                      exact (HOW2.out.lt k e).1
                    case measure => simp [intOf]; omega
                  ·
                    have hB2 : B < 64 := by simpa using hB
                    obtain ⟨z, hz⟩ : ∃ z, z = B * 64 + m := ⟨_, rfl⟩
                    have hz0 : (B : Int) * 64 + (m : Int) = (z : Int) := by omega
                    have hz1 : z < 4096 := by omega
                    have hst := HOE.out
                    rw [b6F_s (H := 4) HBV.out, HXM.out, ← hz] at hst
                    have hand := and_i64 z 4 (by omega) (by decide)
                    have hand : bits .and .i64 (z : Int) 15 = ((z % 16 : Nat) : Int) := hand
                    obtain ⟨r, hr⟩ : ∃ r, r = z % 16 := ⟨_, rfl⟩
                    rw [← hr] at hand
                    obtain ⟨q, hq⟩ : ∃ q, q = z / 16 := ⟨_, rfl⟩
                    have hqi : (z : Int) / 16 = (q : Int) := by omega
                    have hq1 : q < 256 := by omega
                    have hr1 : r < 16 := by omega
                    have hnew : O = (b6F r 4 ((s.data.toList.take n).drop (k + 1))).map (fun y => (y.1, (acc ++ [UInt8.ofNat (q : Int).toNat]) ++ y.2)) := by
                      rw [hst, show z % 2 ^ 4 = r from hr.symm, show z / 2 ^ 4 = q from hq.symm]
                      cases b6F r 4 ((s.data.toList.take n).drop (k + 1)) <;> simp
                    have hnn := nums_one acc (q : Int) (by omega) (by omega)
                    have hal3 : (nums acc).length ≤ 1000000000 := by rw [nums_len]; omega
                    have HNEW := Lib.hid hnew
                    have HNN := Lib.hid hnn
                    have hsz3 : w.heap.size ≤ wr.heap.size := HBW2.out.size
                    have ka : IntKind.i64.wrap ((B : Int) * 64) = (B : Int) * 64 := by rw [IntKind.wrap_i64]; omega
                    have kb : IntKind.i64.wrap (z : Int) = (z : Int) := by rw [IntKind.wrap_i64]; omega
                    clear hst hz hr hq hnew hnn HOE hB HBV HXM
                    go_wp2_with (at_builtin; refine wpList_appJ rfl (.tmp 63) (.tmp 68) _ rfl .u8 w.heap.size 5 _ 1 Tryz.underlying65 Tryz.infoU8 rfl _ (nums acc) rfl (HOW2.out.alloc _) _ 1 1 [(q : Int)] rfl (SlI.one _ _ _ _) (by simp) (by omega) (by omega) (by simp; omega) ?_; intro v4 w4 ow4 hg4 st4; (have OW4 := Lib.hid ow4); (have HG4 := Lib.hid hg4); clear ow4 hg4 st4)
                    go_roundw
                    case rel =>
                      refine ⟨k + 1, acc ++ [UInt8.ofNat (q : Int).toNat], r, 4, by omega, by rw [List.length_append]; simp; omega, by omega, hr1, rfl, rfl, by go_num, by rw [HNN.out]; exact OW4.out, (HBW2.out.alloc (by simpa using hsz3) _).grown HG4.out (by simp; omega) (fun k e => ?_), HNEW.out⟩
                      exact (HOW2.out.lt k e).1
                    case measure => simp [intOf]; omega
          · have hkn : k = n := by omega
            have hfin : O = some (B, acc) := by rw [hoe, List.drop_of_length_le (by rw [HBL.out]; omega)]; simp [b6F]
            have hkf := HOK.out
            rw [hfin] at hkf
            replace hkf : ok = (B == 0) := hkf
            have hob := HOB.out
            rw [hfin] at hob
            replace hob : ok = true → bs = acc := hob
            have hbi : ((B : Int) == 0) = (B == 0) := by rw [Bool.eq_iff_iff, beq_iff_eq, beq_iff_eq]; omega
            rw [← hbi] at hkf
            subst hkf
            have HOB2 := Lib.hid hob
            clear hfin hbi hoe how hbw hob
            go_wp2_with fail
            go_ret2
            exact ⟨_, rfl, HBW.out, fun h => by rw [HOB2.out h]; exact HOW.out⟩
theorem base64_T (s : ByteArray) (w : World) (hs : s.size ≤ 65536) : Calls Tryz.prog 43 #[.string s] w fun e w' => ∃ V, e = .returned (.tuple #[V, .bool (b6R s.data.toList).2]) ∧ Below w.heap.size w w' :=
  (base64_V s w hs).mono fun e w' ⟨V, h1, h2, _⟩ => ⟨V, h1, h2⟩
end Go.Proofs.YtlhcejbimlilaaaGreatDoor
