/- RankJoins: rows behind one another. -/
import Derived.Test.YtpphjiialgmidaaRkJ
import Derived.Test.YtpphjiialgmidaaRankInverse
set_option linter.unusedVariables false
set_option linter.unusedSimpArgs false
namespace Go.Tk
open Go Go.RowKit
theorem cut_val (z : Int) (n : Nat) (hn : n ≤ 1000000000) : ∃ m : Nat, wrap64 ((IntKind.u64.wrap z).tmod ((n : Int) + 1)) = (m : Int) ∧ m ≤ n := by
  have h0 : 0 ≤ IntKind.u64.wrap z := by rw [IntKind.wrap_u64]; omega
  rw [Int.tmod_eq_emod_of_nonneg h0]
  have h1 := Int.emod_nonneg (IntKind.u64.wrap z) (b := (n : Int) + 1) (by omega)
  have h2 := Int.emod_lt_of_pos (IntKind.u64.wrap z) (b := (n : Int) + 1) (by omega)
  refine ⟨(IntKind.u64.wrap z % ((n : Int) + 1)).toNat, ?_, by omega⟩
  rw [Int.toNat_of_nonneg h1]
  generalize IntKind.u64.wrap z % ((n : Int) + 1) = y at *
  unfold wrap64
  omega
theorem mid_below {wr w' : World} {o : Obj} {n c : Nat} (h : (wr.alloc o).grownBy w' (Value.ownBlock (.slice (some ⟨wr.heap.size, 0, none⟩) n c))) : Below wr.heap.size wr w' :=
  ((Below.refl _ wr).alloc (Nat.le_refl _) o).grown h (by simp) (fun j hj => by simp [Value.ownBlock] at hj; omega)
theorem owB_z {e : TypeId} {base : Nat} {w : World} {v : Value} {zs : List Bool} (h : OwB e base w v zs) : ∃ z, z = zs ∧ OwB e base w v z := ⟨_, rfl, h⟩
end Go.Tk
namespace Go.Proofs.Ytpphjiialgmidaa
open Go.RowKit Go.Tk
set_option maxRecDepth 100000 in
set_option maxHeartbeats 4000000 in
theorem joins_go (w : World) (a : Option Addr) (n c : Nat) (l : List Bool) (h : SlB w a n c l) (hc : c ≤ 140737488351232) (hnil : a = none → c = 0) (a2 : Option Addr) (n2 c2 : Nat) (l2 : List Bool) (h2 : SlB w a2 n2 c2 l2) (hc2 : c2 ≤ 140737488351232) (hnil2 : a2 = none → c2 = 0) (at_ : Int) (hat : (Lit.int .i64 at_).wf = true) :
    Calls Try.prog 7 #[.slice a n c, .slice a2 n2 c2, .int .i64 at_] w fun e w' => e = .returned (.bool true) ∧ Below w.heap.size w w' := by
  have hnc := h.le
  have hnc2 := h2.le
  by_cases hbig : 67108864 < (n : Int) + (n2 : Int)
  · clear h h2
    go_enter Try.func7, Try.ntmps7
    go_wp2_with (go_at_call 24; (with_reducible refine (works_calls _).mono ?_); rintro e w1 ⟨rfl, hb⟩; (have HB := Lib.hid hb); clear hb)
    go_ret
    exact ⟨rfl, HB.out⟩
  have hln := h.len
  have hln2 := h2.len
  have hn : n + n2 ≤ 67108864 := by omega
  have H := Lib.hid h
  have H2 := Lib.hid h2
  have HLN := Lib.hid hln
  have HLN2 := Lib.hid hln2
  have HNIL := Lib.hid hnil
  have HNIL2 := Lib.hid hnil2
  clear h h2 hln hln2 hnil hnil2
  go_enter Try.func7, Try.ntmps7
  go_upto_region 6 with (first
    | (go_at_call 24; (with_reducible refine (works_calls _).mono ?_); rintro e w1 ⟨rfl, hb⟩; (have HB := Lib.hid hb); clear hb)
    | (go_at_call 25; (with_reducible refine (made_calls _ _ _ _ _ (H.out.keep HB.out) (by omega)).mono ?_); rintro e w3 ⟨gx, rfl, hgv, hv, hb⟩; (have HX := Lib.hid hv); (have HB3 := Lib.hid (HB.out.trans (hb.mono HB.out.size))); clear hgv hv hb))
  go_upto_region 7 with (go_at_call 25; (with_reducible refine (made_calls _ _ _ _ _ (H2.out.keep HB3.out) (by omega)).mono ?_); rintro e w4 ⟨gy, rfl, hgv, hv, hb⟩; (have HY := Lib.hid hv); (have HX4 := Lib.hid (HX.out.below hb)); (have HB4 := Lib.hid (HB3.out.trans (hb.mono HB3.out.size))); clear hgv hv hb)
  have hs4 := H.out.keep HB4.out
  have hs42 := H2.out.keep HB4.out
  have HS4 := Lib.hid hs4
  have HS42 := Lib.hid hs42
  have hsz4 := HB4.out.size
  clear hs4 hs42 HX HB HB3 H H2
  have hnl4 : l.length ≤ 67108864 := by have := HLN.out; omega
  have HNL4 := Lib.hid hnl4
  clear hnl4
  go_upto_region 8 with (first
    | (at_builtin; refine wpList_appB rfl (.tmp 24) (.tmp 25) _ rfl w4.heap.size 4 _ 1 Try.underlying34 infoB rfl _ [] rfl (OwB.empty _ _ _ (Nat.le_refl _)) _ _ _ _ rfl (HS4.out.keep ((Below.refl _ _).alloc (Nat.le_refl _) _)) HNIL.out (by simp; omega) (by simp; omega) (by simp) ?_; intro v' w5 ow' hg' st'; (obtain ⟨z5, hz5, ow5⟩ := owB_z ow'); (have MID := Lib.hid (mid_below hg')); (have OW5 := Lib.hid ow5); (have HZ5 := Lib.hid hz5); (have HSZ5 := Lib.hid MID.out.size); clear hg' st' ow' hz5 ow5)
    | (at_builtin; refine wpList_appB rfl (.tmp 26) (.tmp 27) _ rfl w4.heap.size 4 _ 1 Try.underlying34 infoB rfl _ _ rfl OW5.out _ _ _ _ rfl (HS42.out.keep MID.out) HNIL2.out (by have := HLN.out; rw [HZ5.out]; simp; omega) (by have := HLN.out; rw [HZ5.out]; simp; omega) HSZ5.out ?_; intro v6 w6 ow6 hg6 st6; (obtain ⟨z6, hz6, ow66⟩ := owB_z ow6); (have MID6 := Lib.hid (MID.out.grown hg6 HSZ5.out (fun j hj => (OW5.out.lt j hj).1))); (have OW6 := Lib.hid ow66); (have HZ6 := Lib.hid hz6); clear hg6 st6 ow6 ow66 hz6; obtain ⟨a6, c6, rfl, sb6, nil6⟩ := OW6.out.sl; (have SB6 := Lib.hid sb6); clear sb6 nil6)
    | (go_at_call 25; ((with_reducible refine (made_calls _ _ _ _ _ SB6.out (by rw [HZ6.out, HZ5.out]; have := HLN.out; have := HLN2.out; simp; omega)).mono ?_); rintro e w7 ⟨gz, rfl, hgv, hv, hb⟩; (have HZ := Lib.hid hv); (have HB67 := Lib.hid hb); clear hgv hv hb)))
  have hz6 : z6 = l ++ l2 := by rw [HZ6.out, HZ5.out]; rfl
  have hz6l : z6.length = n + n2 := by rw [hz6, List.length_append, HLN.out, HLN2.out]
  have b47 := MID6.out.trans (HB67.out.mono MID6.out.size)
  have hx7 := HX4.out.below b47
  have hy7 := HY.out.below b47
  have hz7 := HZ.out
  rw [hz6l, hz6] at hz7
  have hb7 := HB4.out.trans (b47.mono HB4.out.size)
  have hone : cntB (packB (l ++ l2)) (n + n2) = cntB (packB l) n + cntB (packB l2) n2 := by
    have := app_ones l l2
    rwa [HLN.out, HLN2.out] at this
  have hcx := cnt_le (packB l) n
  have hcy := cnt_le (packB l2) n2
  obtain ⟨mx, hmx⟩ : ∃ m, m = cntB (packB l) n := ⟨_, rfl⟩
  obtain ⟨my, hmy⟩ : ∃ m, m = cntB (packB l2) n2 := ⟨_, rfl⟩
  have hox := fun w' => drew_ex (w0 := w7) (w := w') (fun k => (vones (hx7.drewN k)).mono fun e w'' ⟨h1, h2⟩ => (show _ ∧ ∃ q, w'' = (w7.drewN k).drewN q from ⟨h1, 0, h2⟩))
  have hoy := fun w' => drew_ex (w0 := w7) (w := w') (fun k => (vones (hy7.drewN k)).mono fun e w'' ⟨h1, h2⟩ => (show _ ∧ ∃ q, w'' = (w7.drewN k).drewN q from ⟨h1, 0, h2⟩))
  have hoz := fun w' => drew_ex (w0 := w7) (w := w') (fun k => (vones (hz7.drewN k)).mono fun e w'' ⟨h1, h2⟩ => (show _ ∧ ∃ q, w'' = (w7.drewN k).drewN q from ⟨h1, 0, h2⟩))
  rw [hone, ← hmx, ← hmy, Int.natCast_add] at hoz
  rw [← hmx] at hcx hox
  rw [← hmy] at hcy hoy
  have HX7 := Lib.hid hx7
  have HY7 := Lib.hid hy7
  have HZ7 := Lib.hid hz7
  have HB7 := Lib.hid hb7
  have HMX := Lib.hid hmx
  have HMY := Lib.hid hmy
  have HONE := Lib.hid hone
  have HOX := Lib.hid hox
  have HOY := Lib.hid hoy
  have HOZ := Lib.hid hoz
  have HDW : ∃ k, w7 = w7.drewN k := ⟨0, rfl⟩
  clear hz6 hz6l b47 hx7 hy7 hz7 hb7 hone hmx hmy hox hoy hoz HX4 HY HZ MID MID6 HSZ5 OW5 OW6 SB6 HB67 HB4 hsz4 HS4 HS42 HZ5 HZ6
  go_upto_region 11 with fail
  obtain ⟨i, hi, hin⟩ := cut_val at_ (n + n2) (by omega)
  rw [Int.natCast_add] at hi
  rw [hi]
  clear hi
  have hmm : mx + my ≤ n + n2 := by omega
  go_upto_region 12 with (go_at_call 32; (with_reducible refine (HOZ.out _ HDW).mono ?_); rintro e wz ⟨rfl, hd⟩; (have HDW := hd); clear hd)
  obtain ⟨k, hk, hkm⟩ := cut_val at_ (mx + my) (by omega)
  rw [Int.natCast_add] at hk
  rw [hk]
  clear hk
  have hrx := fun (w0 : World) (hv : Vec w0 gx (packB l) n) => vrank hv (i : Int) (by omega)
  have hry := fun (w0 : World) (hv : Vec w0 gy (packB l2) n2) => vrank hv ((i : Int) - (n : Int)) (by omega)
  have hrz := fun (w0 : World) (hv : Vec w0 gz (packB (l ++ l2)) (n + n2)) => vrank hv (i : Int) (by omega)
  have hsx := fun (w0 : World) (hv : Vec w0 gx (packB l) n) => vrank0 hv (i : Int) (by omega)
  have hsy := fun (w0 : World) (hv : Vec w0 gy (packB l2) n2) => vrank0 hv ((i : Int) - (n : Int)) (by omega)
  have hsz := fun (w0 : World) (hv : Vec w0 gz (packB (l ++ l2)) (n + n2)) => vrank0 hv (i : Int) (by omega)
  have hr := app_rank l l2 i
  have hr0 := app_rank0 l l2 i
  rw [HLN.out, HLN2.out] at hr hr0
  rw [Int.toNat_natCast] at hrx hrz hsx hsz
  rw [hr] at hrz
  rw [hr0] at hsz
  have hx1 := cnt_le (packB l) (min i n)
  have hx2 := cnt_le (packB l2) (min ((i : Int) - (n : Int)).toNat n2)
  obtain ⟨X, hX⟩ : ∃ X, X = cntB (packB l) (min i n) := ⟨_, rfl⟩
  obtain ⟨Y, hY⟩ : ∃ Y, Y = cntB (packB l2) (min ((i : Int) - (n : Int)).toNat n2) := ⟨_, rfl⟩
  rw [← hX] at hrx hrz hsx hsz hx1
  rw [← hY] at hry hrz hsy hsz hx2
  obtain ⟨X0, hX0⟩ : ∃ x, x = min i n - X := ⟨_, rfl⟩
  obtain ⟨Y0, hY0⟩ : ∃ x, x = min ((i : Int) - (n : Int)).toNat n2 - Y := ⟨_, rfl⟩
  rw [← hX0] at hsx hsz
  rw [← hY0] at hsy hsz
  rw [Int.natCast_add] at hrz hsz
  have hXb : X ≤ n := by omega
  have hYb : Y ≤ n2 := by omega
  have hX0b : X0 ≤ n := by omega
  have hY0b : Y0 ≤ n2 := by omega
  have HRX := Lib.hid (fun w' => drew_ex (w := w') (fun n => hrx _ (HX7.out.drewN n)))
  have HRY := Lib.hid (fun w' => drew_ex (w := w') (fun n => hry _ (HY7.out.drewN n)))
  have HRZ := Lib.hid (fun w' => drew_ex (w := w') (fun n => hrz _ (HZ7.out.drewN n)))
  have HSX := Lib.hid (fun w' => drew_ex (w := w') (fun n => hsx _ (HX7.out.drewN n)))
  have HSY := Lib.hid (fun w' => drew_ex (w := w') (fun n => hsy _ (HY7.out.drewN n)))
  have HSZ := Lib.hid (fun w' => drew_ex (w := w') (fun n => hsz _ (HZ7.out.drewN n)))
  clear hrx hry hrz hsx hsy hsz hr hr0 hX hY hX0 hY0 hx1 hx2
  go_upto_region 14 with (first
    | (go_at_call 32; (with_reducible refine (HOX.out _ HDW).mono ?_); rintro e wz ⟨rfl, hd⟩; (have HDW := hd); clear hd)
    | (go_at_call 32; (with_reducible refine (HOY.out _ HDW).mono ?_); rintro e wz ⟨rfl, hd⟩; (have HDW := hd); clear hd)
    | (go_at_call 32; (with_reducible refine (HOZ.out _ HDW).mono ?_); rintro e wz ⟨rfl, hd⟩; (have HDW := hd); clear hd)
    | (go_at_call 27; (with_reducible refine (HRX.out _ HDW).mono ?_); rintro e wz ⟨rfl, hd⟩; (have HDW := hd); clear hd)
    | (go_at_call 27; (with_reducible refine (HRY.out _ HDW).mono ?_); rintro e wz ⟨rfl, hd⟩; (have HDW := hd); clear hd)
    | (go_at_call 27; (with_reducible refine (HRZ.out _ HDW).mono ?_); rintro e wz ⟨rfl, hd⟩; (have HDW := hd); clear hd)
    | (go_at_call 28; (with_reducible refine (HSX.out _ HDW).mono ?_); rintro e wz ⟨rfl, hd⟩; (have HDW := hd); clear hd)
    | (go_at_call 28; (with_reducible refine (HSY.out _ HDW).mono ?_); rintro e wz ⟨rfl, hd⟩; (have HDW := hd); clear hd)
    | (go_at_call 28; (with_reducible refine (HSZ.out _ HDW).mono ?_); rintro e wz ⟨rfl, hd⟩; (have HDW := hd); clear hd))
  clear HRX HRY HRZ HSX HSY HSZ
  have hll : l.length + l2.length ≤ 67108864 := by rw [HLN.out, HLN2.out]; exact hn
  have hse := fun (w0 : World) (hv : Vec w0 gz (packB (l ++ l2)) (n + n2)) => vsel hv (k : Int) (by omega)
  by_cases h1 : k < mx
  · have hsx := fun (w0 : World) (hv : Vec w0 gx (packB l) n) => vsel hv (k : Int) (by omega)
    have he := app_sel0 l l2 hll k (by rw [HLN.out, ← HMX.out]; exact h1)
    rw [HLN.out, HLN2.out] at he
    rw [he] at hse
    generalize selW (packB l) n (k : Int) = s at hse hsx
    have HSX := Lib.hid (fun w' => drew_ex (w := w') (fun n => hsx _ (HX7.out.drewN n)))
    have HSZ := Lib.hid (fun w' => drew_ex (w := w') (fun n => hse _ (HZ7.out.drewN n)))
    clear hse hsx he hll
    go_wp2_with (first
      | (go_at_call 32; (with_reducible refine (HOX.out _ HDW).mono ?_); rintro e wz ⟨rfl, hd⟩; (have HDW := hd); clear hd)
      | (go_at_call 30; (with_reducible refine (HSX.out _ HDW).mono ?_); rintro e wz ⟨rfl, hd⟩; (have HDW := hd); clear hd)
      | (go_at_call 30; (with_reducible refine (HSZ.out _ HDW).mono ?_); rintro e wz ⟨rfl, hd⟩; (have HDW := hd); clear hd))
    go_ret
    obtain ⟨q, rfl⟩ := HDW
    exact ⟨rfl, below_drewN HB7.out q⟩
  by_cases h2 : k < mx + my
  · have hsx := fun (w0 : World) (hv : Vec w0 gy (packB l2) n2) => vsel hv ((k : Int) - (mx : Int)) (by omega)
    have he := app_sel1 l l2 hll k (by rw [HLN.out, ← HMX.out]; omega) (by rw [HLN.out, HLN2.out, ← HMX.out, ← HMY.out]; exact h2)
    rw [HLN.out, HLN2.out, ← HMX.out] at he
    rw [he] at hse
    obtain ⟨v, hv, hvb, _, _⟩ := selW_yes (d := packB l2) (N := n2) (by rw [pack_len, HLN2.out]) (by omega) (k - mx) (by rw [← HMY.out]; omega)
    rw [show (k : Int) - (mx : Int) = ((k - mx : Nat) : Int) by omega, hv] at hse
    rw [show (k : Int) - (mx : Int) = ((k - mx : Nat) : Int) by omega, hv, show ((k - mx : Nat) : Int) = (k : Int) - (mx : Int) by omega] at hsx
    have HSX := Lib.hid (fun w' => drew_ex (w := w') (fun n => hsx _ (HY7.out.drewN n)))
    have HSZ := Lib.hid (fun w' => drew_ex (w := w') (fun n => hse _ (HZ7.out.drewN n)))
    clear hse hsx he hll hv
    go_wp2_with (first
      | (go_at_call 32; (with_reducible refine (HOX.out _ HDW).mono ?_); rintro e wz ⟨rfl, hd⟩; (have HDW := hd); clear hd)
      | (go_at_call 32; (with_reducible refine (HOZ.out _ HDW).mono ?_); rintro e wz ⟨rfl, hd⟩; (have HDW := hd); clear hd)
      | (go_at_call 30; (with_reducible refine (HSX.out _ HDW).mono ?_); rintro e wz ⟨rfl, hd⟩; (have HDW := hd); clear hd)
      | (go_at_call 30; (with_reducible refine (HSZ.out _ HDW).mono ?_); rintro e wz ⟨rfl, hd⟩; (have HDW := hd); clear hd))
    go_ret
    obtain ⟨q, rfl⟩ := HDW
    exact ⟨rfl, below_drewN HB7.out q⟩
  · rw [selW_no (.inr (by rw [HONE.out, ← HMX.out, ← HMY.out]; omega))] at hse
    have HSZ := Lib.hid (fun w' => drew_ex (w := w') (fun n => hse _ (HZ7.out.drewN n)))
    have h3 : ¬ (k : Int) < (mx : Int) + (my : Int) := by omega
    clear hse hll
    go_wp2_with (first
      | (go_at_call 32; (with_reducible refine (HOX.out _ HDW).mono ?_); rintro e wz ⟨rfl, hd⟩; (have HDW := hd); clear hd)
      | (go_at_call 32; (with_reducible refine (HOZ.out _ HDW).mono ?_); rintro e wz ⟨rfl, hd⟩; (have HDW := hd); clear hd)
      | (go_at_call 30; (with_reducible refine (HSZ.out _ HDW).mono ?_); rintro e wz ⟨rfl, hd⟩; (have HDW := hd); clear hd))
    go_ret
    obtain ⟨q, rfl⟩ := HDW
    exact ⟨rfl, below_drewN HB7.out q⟩
end Go.Proofs.Ytpphjiialgmidaa
