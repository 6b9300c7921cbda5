/- VdK VbD VbE, laid as one. -/
import Derived.Test.YtlhcejbimlilaaaGreatDoorVdJ
import Derived.Test.YtlhcejbimlilaaaGreatDoorVbC
import Derived.Test.YtlhcejbimlilaaaGreatDoorVbM
set_option linter.unusedVariables false
set_option linter.unusedSimpArgs false
/- The document's table of datatypes (written by gen_vdk.py). -/
namespace Go.Proofs.YtlhcejbimlilaaaGreatDoor
open Go.RowKit Go.Tk
def kTab : Array Value := #[.string ⟨#[115, 116, 114, 105, 110, 103]⟩, .int .i64 1, .string ⟨#[]⟩, .string ⟨#[]⟩, .string ⟨#[98, 111, 111, 108, 101, 97, 110]⟩, .int .i64 2, .string ⟨#[]⟩, .string ⟨#[]⟩, .string ⟨#[100, 101, 99, 105, 109, 97, 108]⟩, .int .i64 3, .string ⟨#[]⟩, .string ⟨#[]⟩, .string ⟨#[105, 110, 116, 101, 103, 101, 114]⟩, .int .i64 4, .string ⟨#[]⟩, .string ⟨#[]⟩, .string ⟨#[110, 111, 110, 80, 111, 115, 105, 116, 105, 118, 101, 73, 110, 116, 101, 103, 101, 114]⟩, .int .i64 4, .string ⟨#[]⟩, .string ⟨#[48]⟩, .string ⟨#[110, 101, 103, 97, 116, 105, 118, 101, 73, 110, 116, 101, 103, 101, 114]⟩, .int .i64 4, .string ⟨#[]⟩, .string ⟨#[45, 49]⟩, .string ⟨#[110, 111, 110, 78, 101, 103, 97, 116, 105, 118, 101, 73, 110, 116, 101, 103, 101, 114]⟩, .int .i64 4, .string ⟨#[48]⟩, .string ⟨#[]⟩, .string ⟨#[112, 111, 115, 105, 116, 105, 118, 101, 73, 110, 116, 101, 103, 101, 114]⟩, .int .i64 4, .string ⟨#[49]⟩, .string ⟨#[]⟩, .string ⟨#[108, 111, 110, 103]⟩, .int .i64 4, .string ⟨#[45, 57, 50, 50, 51, 51, 55, 50, 48, 51, 54, 56, 53, 52, 55, 55, 53, 56, 48, 56]⟩, .string ⟨#[57, 50, 50, 51, 51, 55, 50, 48, 51, 54, 56, 53, 52, 55, 55, 53, 56, 48, 55]⟩, .string ⟨#[105, 110, 116]⟩, .int .i64 4, .string ⟨#[45, 50, 49, 52, 55, 52, 56, 51, 54, 52, 56]⟩, .string ⟨#[50, 49, 52, 55, 52, 56, 51, 54, 52, 55]⟩, .string ⟨#[115, 104, 111, 114, 116]⟩, .int .i64 4, .string ⟨#[45, 51, 50, 55, 54, 56]⟩, .string ⟨#[51, 50, 55, 54, 55]⟩, .string ⟨#[98, 121, 116, 101]⟩, .int .i64 4, .string ⟨#[45, 49, 50, 56]⟩, .string ⟨#[49, 50, 55]⟩, .string ⟨#[117, 110, 115, 105, 103, 110, 101, 100, 76, 111, 110, 103]⟩, .int .i64 4, .string ⟨#[48]⟩, .string ⟨#[49, 56, 52, 52, 54, 55, 52, 52, 48, 55, 51, 55, 48, 57, 53, 53, 49, 54, 49, 53]⟩, .string ⟨#[117, 110, 115, 105, 103, 110, 101, 100, 73, 110, 116]⟩, .int .i64 4, .string ⟨#[48]⟩, .string ⟨#[52, 50, 57, 52, 57, 54, 55, 50, 57, 53]⟩, .string ⟨#[117, 110, 115, 105, 103, 110, 101, 100, 83, 104, 111, 114, 116]⟩, .int .i64 4, .string ⟨#[48]⟩, .string ⟨#[54, 53, 53, 51, 53]⟩, .string ⟨#[117, 110, 115, 105, 103, 110, 101, 100, 66, 121, 116, 101]⟩, .int .i64 4, .string ⟨#[48]⟩, .string ⟨#[50, 53, 53]⟩, .string ⟨#[100, 111, 117, 98, 108, 101]⟩, .int .i64 5, .string ⟨#[]⟩, .string ⟨#[]⟩, .string ⟨#[102, 108, 111, 97, 116]⟩, .int .i64 5, .string ⟨#[]⟩, .string ⟨#[]⟩, .string ⟨#[100, 97, 116, 101, 84, 105, 109, 101]⟩, .int .i64 6, .string ⟨#[]⟩, .string ⟨#[]⟩, .string ⟨#[100, 97, 116, 101]⟩, .int .i64 7, .string ⟨#[]⟩, .string ⟨#[]⟩, .string ⟨#[116, 105, 109, 101]⟩, .int .i64 8, .string ⟨#[]⟩, .string ⟨#[]⟩, .string ⟨#[104, 101, 120, 66, 105, 110, 97, 114, 121]⟩, .int .i64 9, .string ⟨#[]⟩, .string ⟨#[]⟩, .string ⟨#[98, 97, 115, 101, 54, 52, 66, 105, 110, 97, 114, 121]⟩, .int .i64 10, .string ⟨#[]⟩, .string ⟨#[]⟩]
/-- The names -/
def kiN : Nat → List UInt8
  | 0 => [115, 116, 114, 105, 110, 103]
  | 1 => [98, 111, 111, 108, 101, 97, 110]
  | 2 => [100, 101, 99, 105, 109, 97, 108]
  | 3 => [105, 110, 116, 101, 103, 101, 114]
  | 4 => [110, 111, 110, 80, 111, 115, 105, 116, 105, 118, 101, 73, 110, 116, 101, 103, 101, 114]
  | 5 => [110, 101, 103, 97, 116, 105, 118, 101, 73, 110, 116, 101, 103, 101, 114]
  | 6 => [110, 111, 110, 78, 101, 103, 97, 116, 105, 118, 101, 73, 110, 116, 101, 103, 101, 114]
  | 7 => [112, 111, 115, 105, 116, 105, 118, 101, 73, 110, 116, 101, 103, 101, 114]
  | 8 => [108, 111, 110, 103]
  | 9 => [105, 110, 116]
  | 10 => [115, 104, 111, 114, 116]
  | 11 => [98, 121, 116, 101]
  | 12 => [117, 110, 115, 105, 103, 110, 101, 100, 76, 111, 110, 103]
  | 13 => [117, 110, 115, 105, 103, 110, 101, 100, 73, 110, 116]
  | 14 => [117, 110, 115, 105, 103, 110, 101, 100, 83, 104, 111, 114, 116]
  | 15 => [117, 110, 115, 105, 103, 110, 101, 100, 66, 121, 116, 101]
  | 16 => [100, 111, 117, 98, 108, 101]
  | 17 => [102, 108, 111, 97, 116]
  | 18 => [100, 97, 116, 101, 84, 105, 109, 101]
  | 19 => [100, 97, 116, 101]
  | 20 => [116, 105, 109, 101]
  | 21 => [104, 101, 120, 66, 105, 110, 97, 114, 121]
  | _ => [98, 97, 115, 101, 54, 52, 66, 105, 110, 97, 114, 121]
/-- and what they are -/
def kiD : Nat → Kd
  | 0 => .str
  | 1 => .boo
  | 2 => .dec
  | 3 => .int [] []
  | 4 => .int [] [48]
  | 5 => .int [] [45, 49]
  | 6 => .int [48] []
  | 7 => .int [49] []
  | 8 => .int [45, 57, 50, 50, 51, 51, 55, 50, 48, 51, 54, 56, 53, 52, 55, 55, 53, 56, 48, 56] [57, 50, 50, 51, 51, 55, 50, 48, 51, 54, 56, 53, 52, 55, 55, 53, 56, 48, 55]
  | 9 => .int [45, 50, 49, 52, 55, 52, 56, 51, 54, 52, 56] [50, 49, 52, 55, 52, 56, 51, 54, 52, 55]
  | 10 => .int [45, 51, 50, 55, 54, 56] [51, 50, 55, 54, 55]
  | 11 => .int [45, 49, 50, 56] [49, 50, 55]
  | 12 => .int [48] [49, 56, 52, 52, 54, 55, 52, 52, 48, 55, 51, 55, 48, 57, 53, 53, 49, 54, 49, 53]
  | 13 => .int [48] [52, 50, 57, 52, 57, 54, 55, 50, 57, 53]
  | 14 => .int [48] [54, 53, 53, 51, 53]
  | 15 => .int [48] [50, 53, 53]
  | 16 => .dbl
  | 17 => .dbl
  | 18 => .dtm
  | 19 => .dat
  | 20 => .tim
  | 21 => .hex
  | _ => .b64
def lkK : Kd → Int
  | .str => 1 | .boo => 2 | .dec => 3 | .int _ _ => 4 | .dbl => 5 | .dtm => 6 | .dat => 7 | .tim => 8 | .hex => 9 | .b64 => 10
def loK : Kd → List UInt8
  | .int lo _ => lo
  | _ => []
def hiK : Kd → List UInt8
  | .int _ hi => hi
  | _ => []
theorem ki_cases {P : Nat → Prop} (h0 : P 0) (h1 : P 1) (h2 : P 2) (h3 : P 3) (h4 : P 4) (h5 : P 5) (h6 : P 6) (h7 : P 7) (h8 : P 8) (h9 : P 9) (h10 : P 10) (h11 : P 11) (h12 : P 12) (h13 : P 13) (h14 : P 14) (h15 : P 15) (h16 : P 16) (h17 : P 17) (h18 : P 18) (h19 : P 19) (h20 : P 20) (h21 : P 21) (h22 : P 22) (k : Nat) (hk : k < 23) : P k := by
  have : k = 0 ∨ k = 1 ∨ k = 2 ∨ k = 3 ∨ k = 4 ∨ k = 5 ∨ k = 6 ∨ k = 7 ∨ k = 8 ∨ k = 9 ∨ k = 10 ∨ k = 11 ∨ k = 12 ∨ k = 13 ∨ k = 14 ∨ k = 15 ∨ k = 16 ∨ k = 17 ∨ k = 18 ∨ k = 19 ∨ k = 20 ∨ k = 21 ∨ k = 22 := by omega
  rcases this with rfl | rfl | rfl | rfl | rfl | rfl | rfl | rfl | rfl | rfl | rfl | rfl | rfl | rfl | rfl | rfl | rfl | rfl | rfl | rfl | rfl | rfl | rfl <;> assumption
theorem ki_0 (k : Nat) (hk : k < 23) : kTab[4 * k]? = some (.string ⟨(kiN k).toArray⟩) :=
  ki_cases (P := fun k => kTab[4 * k]? = some (.string ⟨(kiN k).toArray⟩)) rfl rfl rfl rfl rfl rfl rfl rfl rfl rfl rfl rfl rfl rfl rfl rfl rfl rfl rfl rfl rfl rfl rfl k hk
theorem ki_1 (k : Nat) (hk : k < 23) : kTab[4 * k + 1]? = some (.int .i64 (lkK (kiD k))) :=
  ki_cases (P := fun k => kTab[4 * k + 1]? = some (.int .i64 (lkK (kiD k)))) rfl rfl rfl rfl rfl rfl rfl rfl rfl rfl rfl rfl rfl rfl rfl rfl rfl rfl rfl rfl rfl rfl rfl k hk
theorem ki_2 (k : Nat) (hk : k < 23) : kTab[4 * k + 2]? = some (.string ⟨(loK (kiD k)).toArray⟩) :=
  ki_cases (P := fun k => kTab[4 * k + 2]? = some (.string ⟨(loK (kiD k)).toArray⟩)) rfl rfl rfl rfl rfl rfl rfl rfl rfl rfl rfl rfl rfl rfl rfl rfl rfl rfl rfl rfl rfl rfl rfl k hk
theorem ki_3 (k : Nat) (hk : k < 23) : kTab[4 * k + 3]? = some (.string ⟨(hiK (kiD k)).toArray⟩) :=
  ki_cases (P := fun k => kTab[4 * k + 3]? = some (.string ⟨(hiK (kiD k)).toArray⟩)) rfl rfl rfl rfl rfl rfl rfl rfl rfl rfl rfl rfl rfl rfl rfl rfl rfl rfl rfl rfl rfl rfl rfl k hk
theorem ki_len (k : Nat) (hk : k < 23) : (kiN k).length ≤ 100 :=
  ki_cases (P := fun k => (kiN k).length ≤ 100) (by decide) (by decide) (by decide) (by decide) (by decide) (by decide) (by decide) (by decide) (by decide) (by decide) (by decide) (by decide) (by decide) (by decide) (by decide) (by decide) (by decide) (by decide) (by decide) (by decide) (by decide) (by decide) (by decide) k hk
theorem ki_kd (k : Nat) (hk : k < 23) : kdL (kiN k) = some (kiD k) :=
  ki_cases (P := fun k => kdL (kiN k) = some (kiD k)) (by kernel_rfl) (by kernel_rfl) (by kernel_rfl) (by kernel_rfl) (by kernel_rfl) (by kernel_rfl) (by kernel_rfl) (by kernel_rfl) (by kernel_rfl) (by kernel_rfl) (by kernel_rfl) (by kernel_rfl) (by kernel_rfl) (by kernel_rfl) (by kernel_rfl) (by kernel_rfl) (by kernel_rfl) (by kernel_rfl) (by kernel_rfl) (by kernel_rfl) (by kernel_rfl) (by kernel_rfl) (by kernel_rfl) k hk
theorem ki_pre (l : List UInt8) : Lib.hasPrefix (xsd ++ l) xsd = true := by
  unfold Lib.hasPrefix
  exact List.isPrefixOf_iff_prefix.2 ⟨l, rfl⟩
theorem ki_yes (k : Nat) (hk : k < 23) : kdOf (xsd ++ kiN k) = some (kiD k) := by
  unfold kdOf
  rw [if_pos (ki_pre _), show (xsd ++ kiN k).drop 33 = kiN k from List.drop_left (l₁ := xsd), ki_kd k hk]
theorem ki_no {t : List UInt8} (h : ∀ k, k < 23 → t ≠ xsd ++ kiN k) : kdOf t = none := by
  unfold kdOf
  split
  · rename_i hp
    have e : t = xsd ++ t.drop 33 := by
      unfold Lib.hasPrefix at hp
      obtain ⟨u, hu⟩ := List.isPrefixOf_iff_prefix.1 hp
      have hl : xsd.length = 33 := rfl
      rw [← hu, ← hl, List.drop_left]
    have hn : ∀ k, k < 23 → t.drop 33 ≠ kiN k := fun k hk e2 => h k hk (by rw [← e2]; exact e)
    rw [kdL_none (hn 0 (by decide)) (hn 1 (by decide)) (hn 2 (by decide)) (hn 16 (by decide)) (hn 17 (by decide)) (hn 18 (by decide)) (hn 19 (by decide)) (hn 20 (by decide)) (hn 21 (by decide)) (hn 22 (by decide)), endsP_none (hn 3 (by decide)) (hn 4 (by decide)) (hn 5 (by decide)) (hn 6 (by decide)) (hn 7 (by decide)) (hn 8 (by decide)) (hn 9 (by decide)) (hn 10 (by decide)) (hn 11 (by decide)) (hn 12 (by decide)) (hn 13 (by decide)) (hn 14 (by decide)) (hn 15 (by decide))]
    rfl
  · rfl
set_option maxRecDepth 100000 in
set_option maxHeartbeats 8000000 in
theorem kinds_calls (w : World) : Calls Tryz.prog 69 #[] w fun e w' => e = .returned (.slice (some ⟨w.heap.size, 0, none⟩) 23 23) ∧ w' = w.alloc (.cells kTab 48) := by
  go_enter Tryz.func69, Tryz.ntmps69
  go_wp2_with fail
  go_ret
  exact ⟨rfl, rfl⟩
end Go.Proofs.YtlhcejbimlilaaaGreatDoor
/- The program's Known, Check. -/
namespace Go.Proofs.YtlhcejbimlilaaaGreatDoor
open Go.RowKit Go.Tk
/-- What Check answers. -/
def chkE (t s : List UInt8) : Int := if 65536 < s.length then 2 else match kdOf t with
  | none => 0
  | some k => if isK k s = true then 0 else 80
theorem kdOf_cases (t : List UInt8) : (kdOf t = none ∧ (Lib.hasPrefix t xsd = false ∨ Lib.hasPrefix t xsd = true ∧ kdL (t.drop 33) = none)) ∨ ∃ k, kdOf t = some k ∧ Lib.hasPrefix t xsd = true ∧ kdL (t.drop 33) = some k := by
  unfold kdOf
  cases h : Lib.hasPrefix t xsd with
  | false => exact .inl ⟨rfl, .inl rfl⟩
  | true =>
    rw [if_pos rfl]
    cases h2 : kdL (t.drop 33) with
    | none => exact .inl ⟨rfl, .inr ⟨rfl, rfl⟩⟩
    | some k => exact .inr ⟨k, rfl, rfl, rfl⟩
theorem find_none' (t : ByteArray) (w : World) (h : kdOf t.data.toList = none) :
    Calls Tryz.prog 24 #[.string t] w fun e w' => e = .returned (.tuple #[.agg #[.int .i64 0, .nilFunc, .nilFunc], .bool false]) ∧ Below w.heap.size w w' := by
  rcases kdOf_cases t.data.toList with ⟨_, h1 | ⟨h1, h2⟩⟩ | ⟨k, hk, _⟩
  · exact find_no t w h1
  · exact find_none t w h1 h2
  · rw [h] at hk; cases hk
theorem find_some (t s : ByteArray) (k : Kd) (w : World) (hs : s.size ≤ 65536) (h : kdOf t.data.toList = some k) :
    Calls Tryz.prog 24 #[.string t] w (FdRow s k w) := by
  rcases kdOf_cases t.data.toList with ⟨h1, _⟩ | ⟨k', hk, h1, h2⟩
  · rw [h] at h1; cases h1
  · rw [h] at hk
    obtain rfl := Option.some.inj hk
    exact find_yes t s k w hs h1 h2
theorem enter_isF (k : Kd) (args : Array Value) (W : World) : (callFunc (isF k) args).run Tryz.prog W = .ok (.enter (isF k) args) W := by
  cases k <;> kernel_rfl
set_option maxHeartbeats 1000000 in
theorem vcheck_calls (t s : ByteArray) (w : World) (hs : s.size ≤ 9223372036854775807) : Calls Tryz.prog 13 #[.string t, .string s] w fun e w' => e = .returned (.int .i64 (chkE t.data.toList s.data.toList)) ∧ Below w.heap.size w w' := by
  have hl : s.data.toList.length = s.size := (Lib.size_eq s).symm
  by_cases hz : 65536 < s.size
  · have e : chkE t.data.toList s.data.toList = 2 := by unfold chkE; rw [hl, if_pos hz]
    rw [e]
    have hz' : 65536 < (s.size : Int) := by omega
    clear e hl hz
    go_enter Tryz.func13, Tryz.ntmps13
    go_wp2_with fail
    go_ret
    exact ⟨rfl, Below.refl _ _⟩
  have hz' : (s.size : Int) ≤ 65536 := by omega
  have hz2 : s.size ≤ 65536 := by omega
  cases hk : kdOf t.data.toList with
  | none =>
    have e : chkE t.data.toList s.data.toList = 0 := by unfold chkE; rw [hl, if_neg hz, hk]
    rw [e]
    have h := fun w => find_none' t w hk
    have H := Lib.hid h
    clear h hk e hl hz
    go_enter Tryz.func13, Tryz.ntmps13
    go_wp2_with (go_at_call 24; (with_reducible refine (H.out _).mono ?_); rintro e w1 ⟨rfl, hb1⟩)
    go_ret
    exact ⟨rfl, hb1.trans ((Below.refl _ _).alloc hb1.size _)⟩
  | some k =>
    have e : chkE t.data.toList s.data.toList = if isK k s.data.toList = true then 0 else 80 := by unfold chkE; rw [hl, if_neg hz, hk]
    rw [e]
    have h := fun w => find_some t s k w hz2 hk
    have hcf := enter_isF k
    obtain ⟨F, hF⟩ : ∃ F, F = isF k := ⟨_, rfl⟩
    obtain ⟨G, hG⟩ : ∃ F, F = ownF k := ⟨_, rfl⟩
    obtain ⟨f, hf⟩ : ∃ F, F = famK k := ⟨_, rfl⟩
    obtain ⟨b, hb⟩ : ∃ b, b = isK k s.data.toList := ⟨_, rfl⟩
    have h : ∀ w, Calls Tryz.prog 24 #[.string t] w fun e w' => ∃ caps : Array Value, e = .returned (.tuple #[.agg #[.int .i64 f, .func (.func F) #[] caps, .func (.func G) #[] #[]], .bool true]) ∧ Below w.heap.size w w' ∧
      ∀ w2, Below w'.heap.size w' w2 → Calls Tryz.prog F (#[.string s] ++ caps) w2 fun e2 w3 => e2 = .returned (.bool b) ∧ Below w2.heap.size w2 w3 := fun w => (h w).mono fun e w' ⟨caps, a, b', c⟩ => ⟨caps, by rw [hF, hG, hf]; exact a, b', by rw [hF, hb]; exact c⟩
    rw [← hF] at hcf
    rw [← hb]
    have H := Lib.hid h
    clear h hk hF hG hf hb e hl hz
    cases b with
    | true =>
      rw [if_pos rfl]
      go_enter Tryz.func13, Tryz.ntmps13
      go_wp2_with (first | (go_at_call 24; (with_reducible refine (H.out _).mono ?_); rintro e w1 ⟨caps, rfl, hb1, his⟩; (have HIS := Lib.hid his); clear his) | ((with_reducible refine (HIS.out _ ((Below.refl _ _).alloc (Nat.le_refl _) _)).mono ?_); rintro e w3 ⟨rfl, hb3⟩))
      go_ret
      exact ⟨rfl, below_box hb1 _ hb3⟩
    | false =>
      rw [if_neg (by simp)]
      go_enter Tryz.func13, Tryz.ntmps13
      go_wp2_with (first | (go_at_call 24; (with_reducible refine (H.out _).mono ?_); rintro e w1 ⟨caps, rfl, hb1, his⟩; (have HIS := Lib.hid his); clear his) | ((with_reducible refine (HIS.out _ ((Below.refl _ _).alloc (Nat.le_refl _) _)).mono ?_); rintro e w3 ⟨rfl, hb3⟩))
      go_ret
      exact ⟨rfl, below_box hb1 _ hb3⟩
end Go.Proofs.YtlhcejbimlilaaaGreatDoor
/- The program's Canonical. -/
namespace Go.Tk
open Go Go.RowKit
end Go.Tk
namespace Go.Proofs.YtlhcejbimlilaaaGreatDoor
open Go.RowKit Go.Tk
def OwP (o : Option (List UInt8)) (w : World) (e : Ending) (w' : World) : Prop := ∃ T : ByteArray, e = .returned (.tuple #[.string T, .bool o.isSome]) ∧ (∀ t, o = some t → T = ⟨t.toArray⟩) ∧ Below w.heap.size w w'
theorem OwP.of {t : List UInt8} {w : World} {e : Ending} {w' : World} (h : e = .returned (.tuple #[.string ⟨t.toArray⟩, .bool true]) ∧ Below w.heap.size w w') : OwP (some t) w e w' := ⟨_, h.1, fun _ ht => by rw [Option.some.inj ht], h.2⟩
theorem chkE_zero {t s : List UInt8} (h : chkE t s = 0) : s.length ≤ 65536 ∧ ∀ k, kdOf t = some k → isK k s = true := by
  unfold chkE at h
  split at h
  · cases h
  refine ⟨by omega, fun k hk => ?_⟩
  rw [hk] at h
  dsimp only at h
  split at h
  · assumption
  · cases h
end Go.Proofs.YtlhcejbimlilaaaGreatDoor
