/- ValueRanges: the walk (written by gen_vranges.py). -/
import Derived.Test.YtlhcejbimlilaaaGreatDoorVbR
import Derived.Test.YtlhcejbimlilaaaGreatDoorQuL
import Derived.Laws.Concat
set_option linter.unusedVariables false
set_option linter.unusedSimpArgs false
namespace Go.Proofs.YtlhcejbimlilaaaGreatDoor
open Go.RowKit Go.Tk
theorem rw_n (k : Nat) (hk : k < 8) : (#[.string ⟨#[108, 111, 110, 103]⟩, .string ⟨#[105, 110, 116]⟩, .string ⟨#[115, 104, 111, 114, 116]⟩, .string ⟨#[98, 121, 116, 101]⟩, .string ⟨#[117, 110, 115, 105, 103, 110, 101, 100, 76, 111, 110, 103]⟩, .string ⟨#[117, 110, 115, 105, 103, 110, 101, 100, 73, 110, 116]⟩, .string ⟨#[117, 110, 115, 105, 103, 110, 101, 100, 83, 104, 111, 114, 116]⟩, .string ⟨#[117, 110, 115, 105, 103, 110, 101, 100, 66, 121, 116, 101]⟩] : Array Value)[k]? = some (.string ⟨(rnN k).toArray⟩) :=
  rn_cases (P := fun k => (#[.string ⟨#[108, 111, 110, 103]⟩, .string ⟨#[105, 110, 116]⟩, .string ⟨#[115, 104, 111, 114, 116]⟩, .string ⟨#[98, 121, 116, 101]⟩, .string ⟨#[117, 110, 115, 105, 103, 110, 101, 100, 76, 111, 110, 103]⟩, .string ⟨#[117, 110, 115, 105, 103, 110, 101, 100, 73, 110, 116]⟩, .string ⟨#[117, 110, 115, 105, 103, 110, 101, 100, 83, 104, 111, 114, 116]⟩, .string ⟨#[117, 110, 115, 105, 103, 110, 101, 100, 66, 121, 116, 101]⟩] : Array Value)[k]? = some (.string ⟨(rnN k).toArray⟩)) rfl rfl rfl rfl rfl rfl rfl rfl k hk
theorem rw_l (k : Nat) (hk : k < 8) : (#[.string ⟨#[45, 57, 50, 50, 51, 51, 55, 50, 48, 51, 54, 56, 53, 52, 55, 55, 53, 56, 48, 56]⟩, .string ⟨#[45, 50, 49, 52, 55, 52, 56, 51, 54, 52, 56]⟩, .string ⟨#[45, 51, 50, 55, 54, 56]⟩, .string ⟨#[45, 49, 50, 56]⟩, .string ⟨#[48]⟩, .string ⟨#[48]⟩, .string ⟨#[48]⟩, .string ⟨#[48]⟩] : Array Value)[k]? = some (.string ⟨(rnL k).toArray⟩) :=
  rn_cases (P := fun k => (#[.string ⟨#[45, 57, 50, 50, 51, 51, 55, 50, 48, 51, 54, 56, 53, 52, 55, 55, 53, 56, 48, 56]⟩, .string ⟨#[45, 50, 49, 52, 55, 52, 56, 51, 54, 52, 56]⟩, .string ⟨#[45, 51, 50, 55, 54, 56]⟩, .string ⟨#[45, 49, 50, 56]⟩, .string ⟨#[48]⟩, .string ⟨#[48]⟩, .string ⟨#[48]⟩, .string ⟨#[48]⟩] : Array Value)[k]? = some (.string ⟨(rnL k).toArray⟩)) rfl rfl rfl rfl rfl rfl rfl rfl k hk
theorem rw_h (k : Nat) (hk : k < 8) : (#[.string ⟨#[57, 50, 50, 51, 51, 55, 50, 48, 51, 54, 56, 53, 52, 55, 55, 53, 56, 48, 55]⟩, .string ⟨#[50, 49, 52, 55, 52, 56, 51, 54, 52, 55]⟩, .string ⟨#[51, 50, 55, 54, 55]⟩, .string ⟨#[49, 50, 55]⟩, .string ⟨#[49, 56, 52, 52, 54, 55, 52, 52, 48, 55, 51, 55, 48, 57, 53, 53, 49, 54, 49, 53]⟩, .string ⟨#[52, 50, 57, 52, 57, 54, 55, 50, 57, 53]⟩, .string ⟨#[54, 53, 53, 51, 53]⟩, .string ⟨#[50, 53, 53]⟩] : Array Value)[k]? = some (.string ⟨(rnH k).toArray⟩) :=
  rn_cases (P := fun k => (#[.string ⟨#[57, 50, 50, 51, 51, 55, 50, 48, 51, 54, 56, 53, 52, 55, 55, 53, 56, 48, 55]⟩, .string ⟨#[50, 49, 52, 55, 52, 56, 51, 54, 52, 55]⟩, .string ⟨#[51, 50, 55, 54, 55]⟩, .string ⟨#[49, 50, 55]⟩, .string ⟨#[49, 56, 52, 52, 54, 55, 52, 52, 48, 55, 51, 55, 48, 57, 53, 53, 49, 54, 49, 53]⟩, .string ⟨#[52, 50, 57, 52, 57, 54, 55, 50, 57, 53]⟩, .string ⟨#[54, 53, 53, 51, 53]⟩, .string ⟨#[50, 53, 53]⟩] : Array Value)[k]? = some (.string ⟨(rnH k).toArray⟩)) rfl rfl rfl rfl rfl rfl rfl rfl k hk
theorem rw_box (w : World) (o1 o2 o3 : Obj) : (((w.alloc o1).alloc o2).alloc o3).heap[w.heap.size]? = some o1 ∧ (((w.alloc o1).alloc o2).alloc o3).heap[w.heap.size + 1]? = some o2 ∧ (((w.alloc o1).alloc o2).alloc o3).heap[w.heap.size + 1 + 1]? = some o3 ∧ Below w.heap.size w (((w.alloc o1).alloc o2).alloc o3) := by
  obtain ⟨h1, h2, hb⟩ := box2 w o1 o2
  have h3 := heap_alloc_new ((w.alloc o1).alloc o2) o3
  refine ⟨(Below.heap_alloc _ _ _ (by simp; omega)).trans h1, (Below.heap_alloc _ _ _ (by simp)).trans h2, by simpa using h3, hb.alloc (by simp; omega) _⟩
set_option maxRecDepth 100000 in
set_option maxHeartbeats 4000000 in
theorem ranges_in (w : World) (t : ByteArray) (ht : t.size ≤ 9223372036854775807) (hpw : Pow w) :
    Calls Tryz.prog 8 #[.string t] w fun e w' => e = .returned (.bool true) ∧ Below w.heap.size w w' := by
  have hwk : Calls Tryz.prog 21 #[] w fun e w' => e = .returned (.bool true) ∧ Below w.heap.size w w' := works_calls w hpw
  have HWK := Lib.hid hwk
  have HT := Lib.hid ht
  clear hwk hpw ht
  have N := Lib.hid num_calls
  go_enter Tryz.func8, Tryz.ntmps8
  go_upto_region 3 with (go_at_call 21; (with_reducible refine (HWK.out).mono ?_); rintro e w1 ⟨rfl, hb0⟩)
  go_upto_region 6 with fail
  obtain ⟨ra, rb, rc, hbA⟩ := rw_box w1 (.cells #[.string ⟨#[108, 111, 110, 103]⟩, .string ⟨#[105, 110, 116]⟩, .string ⟨#[115, 104, 111, 114, 116]⟩, .string ⟨#[98, 121, 116, 101]⟩, .string ⟨#[117, 110, 115, 105, 103, 110, 101, 100, 76, 111, 110, 103]⟩, .string ⟨#[117, 110, 115, 105, 103, 110, 101, 100, 73, 110, 116]⟩, .string ⟨#[117, 110, 115, 105, 103, 110, 101, 100, 83, 104, 111, 114, 116]⟩, .string ⟨#[117, 110, 115, 105, 103, 110, 101, 100, 66, 121, 116, 101]⟩] 40) (.cells #[.string ⟨#[45, 57, 50, 50, 51, 51, 55, 50, 48, 51, 54, 56, 53, 52, 55, 55, 53, 56, 48, 56]⟩, .string ⟨#[45, 50, 49, 52, 55, 52, 56, 51, 54, 52, 56]⟩, .string ⟨#[45, 51, 50, 55, 54, 56]⟩, .string ⟨#[45, 49, 50, 56]⟩, .string ⟨#[48]⟩, .string ⟨#[48]⟩, .string ⟨#[48]⟩, .string ⟨#[48]⟩] 40) (.cells #[.string ⟨#[57, 50, 50, 51, 51, 55, 50, 48, 51, 54, 56, 53, 52, 55, 55, 53, 56, 48, 55]⟩, .string ⟨#[50, 49, 52, 55, 52, 56, 51, 54, 52, 55]⟩, .string ⟨#[51, 50, 55, 54, 55]⟩, .string ⟨#[49, 50, 55]⟩, .string ⟨#[49, 56, 52, 52, 54, 55, 52, 52, 48, 55, 51, 55, 48, 57, 53, 53, 49, 54, 49, 53]⟩, .string ⟨#[52, 50, 57, 52, 57, 54, 55, 50, 57, 53]⟩, .string ⟨#[54, 53, 53, 51, 53]⟩, .string ⟨#[50, 53, 53]⟩] 40)
  have hbB := hb0.trans (hbA.mono hb0.size)
  have hs1 : w.heap.size ≤ w1.heap.size := hb0.size
  generalize World.alloc (World.alloc (World.alloc w1 _) _) _ = w2 at ra rb rc hbA hbB ⊢
  clear hb0 hbA
  obtain ⟨g, hg⟩ : ∃ g, g = w1.heap.size := ⟨_, rfl⟩
  rw [← hg] at ra rb rc hs1 ⊢
  clear hg
  have HB := Lib.hid hbB
  have HRA := Lib.hid ra
  have HRB := Lib.hid rb
  have HRC := Lib.hid rc
  clear hbB ra rb rc hs1
  go_wp2_with fail
  go_loopw [6, 7, 8, 9, 10] (fun i _ _ _ _ wr => ∃ k : Nat, k ≤ 8 ∧ i = .int .i64 (k : Nat) ∧ wr.heap[g]? = some (.cells #[.string ⟨#[108, 111, 110, 103]⟩, .string ⟨#[105, 110, 116]⟩, .string ⟨#[115, 104, 111, 114, 116]⟩, .string ⟨#[98, 121, 116, 101]⟩, .string ⟨#[117, 110, 115, 105, 103, 110, 101, 100, 76, 111, 110, 103]⟩, .string ⟨#[117, 110, 115, 105, 103, 110, 101, 100, 73, 110, 116]⟩, .string ⟨#[117, 110, 115, 105, 103, 110, 101, 100, 83, 104, 111, 114, 116]⟩, .string ⟨#[117, 110, 115, 105, 103, 110, 101, 100, 66, 121, 116, 101]⟩] 40) ∧ wr.heap[g + 1]? = some (.cells #[.string ⟨#[45, 57, 50, 50, 51, 51, 55, 50, 48, 51, 54, 56, 53, 52, 55, 55, 53, 56, 48, 56]⟩, .string ⟨#[45, 50, 49, 52, 55, 52, 56, 51, 54, 52, 56]⟩, .string ⟨#[45, 51, 50, 55, 54, 56]⟩, .string ⟨#[45, 49, 50, 56]⟩, .string ⟨#[48]⟩, .string ⟨#[48]⟩, .string ⟨#[48]⟩, .string ⟨#[48]⟩] 40) ∧ wr.heap[g + 1 + 1]? = some (.cells #[.string ⟨#[57, 50, 50, 51, 51, 55, 50, 48, 51, 54, 56, 53, 52, 55, 55, 53, 56, 48, 55]⟩, .string ⟨#[50, 49, 52, 55, 52, 56, 51, 54, 52, 55]⟩, .string ⟨#[51, 50, 55, 54, 55]⟩, .string ⟨#[49, 50, 55]⟩, .string ⟨#[49, 56, 52, 52, 54, 55, 52, 52, 48, 55, 51, 55, 48, 57, 53, 53, 49, 54, 49, 53]⟩, .string ⟨#[52, 50, 57, 52, 57, 54, 55, 50, 57, 53]⟩, .string ⟨#[54, 53, 53, 51, 53]⟩, .string ⟨#[50, 53, 53]⟩] 40) ∧ Below w.heap.size w wr) (fun i _ _ _ _ _ => 8 - (intOf i).toNat)
  case atStart => exact ⟨0, by decide, rfl, HRA.out, HRB.out, HRC.out, HB.out⟩
  case round =>
    clear HRA HRB HRC HB
    obtain ⟨k, hk, rfl, ra, rb, rc, hbw⟩ := hrel
    by_cases hk8 : k < 8
    · have f1 := fun w => lit_calls bInt ⟨(rnL k).toArray⟩ w (by decide)
      have f2 := fun w => lit_calls bInt t w (by decide)
      have f3 := fun w => lit_calls bInt ⟨(rnH k).toArray⟩ w (by decide)
      have zl : (⟨(rnL k).toArray⟩ : ByteArray).size ≤ 100 := by rw [sz_mk]; exact (rn_l0 k hk8).2
      have zh : (⟨(rnH k).toArray⟩ : ByteArray).size ≤ 100 := by rw [sz_mk]; exact (rn_h0 k hk8).2
      have zn : (⟨(rnN k).toArray⟩ : ByteArray).size ≤ 100 := by rw [sz_mk]; exact rn_nm k hk8
      have g1 := fun w => cmp_calls (litT bInt ⟨(rnL k).toArray⟩) (litT bInt t) w (Nat.le_trans zl (by decide)) HT.out
      have g2 := fun w => cmp_calls (litT bInt t) (litT bInt ⟨(rnH k).toArray⟩) w HT.out (Nat.le_trans zh (by decide))
      have hX : (⟨#[104, 116, 116, 112, 58, 47, 47, 119, 119, 119, 46, 119, 51, 46, 111, 114, 103, 47, 50, 48, 48, 49, 47, 88, 77, 76, 83, 99, 104, 101, 109, 97, 35]⟩ ++ ⟨(rnN k).toArray⟩ : ByteArray).data.toList = xsd ++ rnN k := by simp [xsd]
      have d1 := fun w => vcheck_calls (⟨#[104, 116, 116, 112, 58, 47, 47, 119, 119, 119, 46, 119, 51, 46, 111, 114, 103, 47, 50, 48, 48, 49, 47, 88, 77, 76, 83, 99, 104, 101, 109, 97, 35]⟩ ++ ⟨(rnN k).toArray⟩) t w HT.out
      have d2 := fun w => vcheck_calls (⟨#[104, 116, 116, 112, 58, 47, 47, 119, 119, 119, 46, 119, 51, 46, 111, 114, 103, 47, 50, 48, 48, 49, 47, 88, 77, 76, 83, 99, 104, 101, 109, 97, 35]⟩ ++ ⟨(rnN k).toArray⟩) ⟨(rnL k).toArray⟩ w (Nat.le_trans zl (by decide))
      have d3 := fun w => vcheck_calls (⟨#[104, 116, 116, 112, 58, 47, 47, 119, 119, 119, 46, 119, 51, 46, 111, 114, 103, 47, 50, 48, 48, 49, 47, 88, 77, 76, 83, 99, 104, 101, 109, 97, 35]⟩ ++ ⟨(rnN k).toArray⟩) ⟨(rnH k).toArray⟩ w (Nat.le_trans zh (by decide))
      have d4 := fun w => vcheck_calls (⟨#[104, 116, 116, 112, 58, 47, 47, 119, 119, 119, 46, 119, 51, 46, 111, 114, 103, 47, 50, 48, 48, 49, 47, 88, 77, 76, 83, 99, 104, 101, 109, 97, 35]⟩ ++ ⟨(rnN k).toArray⟩) (⟨(rnH k).toArray⟩ ++ ⟨#[48]⟩) w (by rw [ByteArray.size_append]; have : (⟨#[48]⟩ : ByteArray).size = 1 := rfl; omega)
      have hlaw := rn_law k hk8 t
      rw [hX] at d1 d2 d3 d4
      rw [show (⟨(rnL k).toArray⟩ : ByteArray).data.toList = rnL k from rfl, rn_cl k hk8] at d2
      rw [show (⟨(rnH k).toArray⟩ : ByteArray).data.toList = rnH k from rfl, rn_ch k hk8] at d3
      rw [show (⟨(rnH k).toArray⟩ ++ ⟨#[48]⟩ : ByteArray).data.toList = rnH k ++ [48] from by simp, rn_cb k hk8] at d4
      have ca := (row_cell ra k).trans (rw_n k hk8)
      have cb := (row_cell rb k).trans (rw_l k hk8)
      have cc := (row_cell rc k).trans (rw_h k hk8)
      have HRA := Lib.hid ra
      have HRB := Lib.hid rb
      have HRC := Lib.hid rc
      have HBW := Lib.hid hbw
      obtain ⟨e, he⟩ : ∃ e, e = chkE (xsd ++ rnN k) t.data.toList := ⟨_, rfl⟩
      obtain ⟨⟨x, p⟩, hx⟩ : ∃ x, x = cmpE (litT bInt ⟨(rnL k).toArray⟩) (litT bInt t) := ⟨_, rfl⟩
      obtain ⟨⟨y, q⟩, hy⟩ : ∃ x, x = cmpE (litT bInt t) (litT bInt ⟨(rnH k).toArray⟩) := ⟨_, rfl⟩
      rw [← he] at d1 hlaw
      rw [← hx] at g1 hlaw
      rw [← hy] at g2 hlaw
      obtain ⟨V1, h1⟩ : ∃ V, V = (litT bInt ⟨(rnL k).toArray⟩).val := ⟨_, rfl⟩
      obtain ⟨V2, h2⟩ : ∃ V, V = (litT bInt t).val := ⟨_, rfl⟩
      obtain ⟨V3, h3⟩ : ∃ V, V = (litT bInt ⟨(rnH k).toArray⟩).val := ⟨_, rfl⟩
      rw [← h1] at f1 g1
      rw [← h2] at f2 g1 g2
      rw [← h3] at f3 g2
      clear h1 h2 h3 he hx hy hX ra rb rc hbw
      generalize (⟨(rnN k).toArray⟩ : ByteArray) = nm at *
      generalize (⟨(rnL k).toArray⟩ : ByteArray) = lo at *
      generalize (⟨(rnH k).toArray⟩ : ByteArray) = hi at *
      replace f1 : ∀ w, Calls Tryz.prog 22 #[.string ⟨#[105, 110, 116, 101, 103, 101, 114]⟩, .string lo] w fun e w' => e = .returned V1 ∧ Below w.heap.size w w' := f1
      replace f2 : ∀ w, Calls Tryz.prog 22 #[.string ⟨#[105, 110, 116, 101, 103, 101, 114]⟩, .string t] w fun e w' => e = .returned V2 ∧ Below w.heap.size w w' := f2
      replace f3 : ∀ w, Calls Tryz.prog 22 #[.string ⟨#[105, 110, 116, 101, 103, 101, 114]⟩, .string hi] w fun e w' => e = .returned V3 ∧ Below w.heap.size w w' := f3
      dsimp only at g1 g2 hlaw
      have F1 := Lib.hid f1
      have F2 := Lib.hid f2
      have F3 := Lib.hid f3
      have G1 := Lib.hid g1
      have G2 := Lib.hid g2
      have D1 := Lib.hid d1
      have D2 := Lib.hid d2
      have D3 := Lib.hid d3
      have D4 := Lib.hid d4
      have HL := Lib.hid hlaw
      have HK := Lib.hid hk
      have hwk : IntKind.i64.wrap ((k : Int) + 1) = (k : Int) + 1 := by rw [IntKind.wrap_i64]; omega
      have hn1 : ((k : Int) + 1).toNat = k + 1 := by omega
      clear f1 f2 f3 g1 g2 d1 d2 d3 d4 hlaw hk
      go_upto_region 10 with (first | (go_at_call 22; (first | ((with_reducible refine (F1.out _).mono ?_); rintro e w3 ⟨rfl, hb3⟩) | ((with_reducible refine (F2.out _).mono ?_); rintro e w4 ⟨rfl, hb4⟩))) | (go_at_call 17; (with_reducible refine (G1.out _).mono ?_); rintro e w5 ⟨rfl, hb5⟩))
      have q3 := hb3
      have q4 := q3.trans (hb4.mono q3.size)
      have q5 := q4.trans (hb5.mono q4.size)
      replace HRA := Lib.hid ((q5.block _ (lt_of_block HRA.out)).trans HRA.out)
      replace HRB := Lib.hid ((q5.block _ (lt_of_block HRB.out)).trans HRB.out)
      replace HRC := Lib.hid ((q5.block _ (lt_of_block HRC.out)).trans HRC.out)
      replace HBW := Lib.hid (HBW.out.trans (q5.mono HBW.out.size))
      replace ca := (q5.cell (block_lt_of_cell ca)).trans ca
      replace cb := (q5.cell (block_lt_of_cell cb)).trans cb
      replace cc := (q5.cell (block_lt_of_cell cc)).trans cc
      clear hb3 hb4 hb5 q3 q4 q5
      have xc := Lw.cell cc
      have CA := Lib.hid ca
      have CB := Lib.hid cb
      have CC := Lib.hid cc
      clear ca cb cc
      refine wp_region_lw (by kernel_rfl) (by kernel_rfl) ?_
      repeat (go_big_quiet_step (first | exact rfl | (go_at_call 22; (first | with_reducible exact lw_call (F2.out _) | with_reducible exact lw_call (F3.out _))) | (go_at_call 17; with_reducible exact lw_call (G2.out _))))
      refine wpQuiet_nil ?_
      rintro ⟨w6, hb6⟩
      dsimp only
      clear xc
      replace HRA := Lib.hid ((hb6.block _ (lt_of_block HRA.out)).trans HRA.out)
      replace HRB := Lib.hid ((hb6.block _ (lt_of_block HRB.out)).trans HRB.out)
      replace HRC := Lib.hid ((hb6.block _ (lt_of_block HRC.out)).trans HRC.out)
      replace HBW := Lib.hid (HBW.out.trans (hb6.mono HBW.out.size))
      have ca := (hb6.cell (block_lt_of_cell CA.out)).trans CA.out
      replace CB := Lib.hid ((hb6.cell (block_lt_of_cell CB.out)).trans CB.out)
      replace CC := Lib.hid ((hb6.cell (block_lt_of_cell CC.out)).trans CC.out)
      clear CA hb6 F1 F2 F3 G1 G2
      have HWK2 := Lib.hid hwk
      have HN1 := Lib.hid hn1
      clear hwk hn1
      cases p with
      | false =>
        have hz : (e == 0) = false := by rw [HL.out]; rfl
        clear HL
        go_upto_region 13 with (first | (go_at_call 13; (with_reducible refine (D1.out _).mono ?_); rintro e w7 ⟨rfl, hb7⟩) | (go_at_call 12; (with_reducible refine (N.out _ _).mono ?_); rintro e w8 ⟨rfl, rfl⟩))
        replace HRA := Lib.hid ((hb7.block _ (lt_of_block HRA.out)).trans HRA.out)
        replace HRB := Lib.hid ((hb7.block _ (lt_of_block HRB.out)).trans HRB.out)
        replace HRC := Lib.hid ((hb7.block _ (lt_of_block HRC.out)).trans HRC.out)
        replace HBW := Lib.hid (HBW.out.trans (hb7.mono HBW.out.size))
        replace ca := (hb7.cell (block_lt_of_cell ca)).trans ca
        have cb := (hb7.cell (block_lt_of_cell CB.out)).trans CB.out
        have cc := (hb7.cell (block_lt_of_cell CC.out)).trans CC.out
        clear hb7 CB CC
        have xa := Lw.cell ca
        have xb := Lw.cell cb
        have xc := Lw.cell cc
        refine wp_region_lw (by kernel_rfl) (by kernel_rfl) ?_
        repeat (go_big_quiet_step (first | exact rfl | (go_at_call 13; (first | with_reducible exact lw_call (D2.out _) | with_reducible exact lw_call (D3.out _) | with_reducible exact lw_call (D4.out _))) | (go_at_call 12; with_reducible exact lw_same (N.out _ _))))
        refine wpQuiet_nil ?_
        rintro ⟨w9, hb9⟩
        dsimp only
        clear xa xb xc ca cb cc
        replace HRA := Lib.hid ((hb9.block _ (lt_of_block HRA.out)).trans HRA.out)
        replace HRB := Lib.hid ((hb9.block _ (lt_of_block HRB.out)).trans HRB.out)
        replace HRC := Lib.hid ((hb9.block _ (lt_of_block HRC.out)).trans HRC.out)
        replace HBW := Lib.hid (HBW.out.trans (hb9.mono HBW.out.size))
        clear hb9
        generalize (hi ++ ⟨#[48]⟩ : ByteArray) = h9
        have hwk := HWK2.out
        have HK8 := Lib.hid hk8
        clear zl zh zn hz hk8
        go_wp2_with fail
        have hk8 := HK8.out
        have hk := HK.out
        go_roundw
        case rel => exact ⟨k + 1, by omega, by go_num, HRA.out, HRB.out, HRC.out, HBW.out⟩
        case measure => simp [intOf]; omega
      | true =>
      cases q with
      | false =>
        have hz : (e == 0) = false := by rw [HL.out]; rfl
        clear HL
        go_upto_region 13 with (first | (go_at_call 13; (with_reducible refine (D1.out _).mono ?_); rintro e w7 ⟨rfl, hb7⟩) | (go_at_call 12; (with_reducible refine (N.out _ _).mono ?_); rintro e w8 ⟨rfl, rfl⟩))
        replace HRA := Lib.hid ((hb7.block _ (lt_of_block HRA.out)).trans HRA.out)
        replace HRB := Lib.hid ((hb7.block _ (lt_of_block HRB.out)).trans HRB.out)
        replace HRC := Lib.hid ((hb7.block _ (lt_of_block HRC.out)).trans HRC.out)
        replace HBW := Lib.hid (HBW.out.trans (hb7.mono HBW.out.size))
        replace ca := (hb7.cell (block_lt_of_cell ca)).trans ca
        have cb := (hb7.cell (block_lt_of_cell CB.out)).trans CB.out
        have cc := (hb7.cell (block_lt_of_cell CC.out)).trans CC.out
        clear hb7 CB CC
        have xa := Lw.cell ca
        have xb := Lw.cell cb
        have xc := Lw.cell cc
        refine wp_region_lw (by kernel_rfl) (by kernel_rfl) ?_
        repeat (go_big_quiet_step (first | exact rfl | (go_at_call 13; (first | with_reducible exact lw_call (D2.out _) | with_reducible exact lw_call (D3.out _) | with_reducible exact lw_call (D4.out _))) | (go_at_call 12; with_reducible exact lw_same (N.out _ _))))
        refine wpQuiet_nil ?_
        rintro ⟨w9, hb9⟩
        dsimp only
        clear xa xb xc ca cb cc
        replace HRA := Lib.hid ((hb9.block _ (lt_of_block HRA.out)).trans HRA.out)
        replace HRB := Lib.hid ((hb9.block _ (lt_of_block HRB.out)).trans HRB.out)
        replace HRC := Lib.hid ((hb9.block _ (lt_of_block HRC.out)).trans HRC.out)
        replace HBW := Lib.hid (HBW.out.trans (hb9.mono HBW.out.size))
        clear hb9
        generalize (hi ++ ⟨#[48]⟩ : ByteArray) = h9
        have hwk := HWK2.out
        have HK8 := Lib.hid hk8
        clear zl zh zn hz hk8
        go_wp2_with fail
        have hk8 := HK8.out
        have hk := HK.out
        go_roundw
        case rel => exact ⟨k + 1, by omega, by go_num, HRA.out, HRB.out, HRC.out, HBW.out⟩
        case measure => simp [intOf]; omega
      | true =>
      by_cases hx0 : x ≤ 0
      · by_cases hy0 : y ≤ 0
        ·
          have hz : (e == 0) = true := by rw [HL.out]; rw [decide_eq_true hx0, decide_eq_true hy0]; rfl
          clear HL
          go_upto_region 13 with (first | (go_at_call 13; (with_reducible refine (D1.out _).mono ?_); rintro e w7 ⟨rfl, hb7⟩) | (go_at_call 12; (with_reducible refine (N.out _ _).mono ?_); rintro e w8 ⟨rfl, rfl⟩))
          replace HRA := Lib.hid ((hb7.block _ (lt_of_block HRA.out)).trans HRA.out)
          replace HRB := Lib.hid ((hb7.block _ (lt_of_block HRB.out)).trans HRB.out)
          replace HRC := Lib.hid ((hb7.block _ (lt_of_block HRC.out)).trans HRC.out)
          replace HBW := Lib.hid (HBW.out.trans (hb7.mono HBW.out.size))
          replace ca := (hb7.cell (block_lt_of_cell ca)).trans ca
          have cb := (hb7.cell (block_lt_of_cell CB.out)).trans CB.out
          have cc := (hb7.cell (block_lt_of_cell CC.out)).trans CC.out
          clear hb7 CB CC
          have xa := Lw.cell ca
          have xb := Lw.cell cb
          have xc := Lw.cell cc
          refine wp_region_lw (by kernel_rfl) (by kernel_rfl) ?_
          repeat (go_big_quiet_step (first | exact rfl | (go_at_call 13; (first | with_reducible exact lw_call (D2.out _) | with_reducible exact lw_call (D3.out _) | with_reducible exact lw_call (D4.out _))) | (go_at_call 12; with_reducible exact lw_same (N.out _ _))))
          refine wpQuiet_nil ?_
          rintro ⟨w9, hb9⟩
          dsimp only
          clear xa xb xc ca cb cc
          replace HRA := Lib.hid ((hb9.block _ (lt_of_block HRA.out)).trans HRA.out)
          replace HRB := Lib.hid ((hb9.block _ (lt_of_block HRB.out)).trans HRB.out)
          replace HRC := Lib.hid ((hb9.block _ (lt_of_block HRC.out)).trans HRC.out)
          replace HBW := Lib.hid (HBW.out.trans (hb9.mono HBW.out.size))
          clear hb9
          generalize (hi ++ ⟨#[48]⟩ : ByteArray) = h9
          have hwk := HWK2.out
          have HK8 := Lib.hid hk8
          clear zl zh zn hz hk8
          go_wp2_with fail
          have hk8 := HK8.out
          have hk := HK.out
          go_roundw
          case rel => exact ⟨k + 1, by omega, by go_num, HRA.out, HRB.out, HRC.out, HBW.out⟩
          case measure => simp [intOf]; omega
        ·
          have hz : (e == 0) = false := by rw [HL.out]; rw [decide_eq_true hx0, decide_eq_false hy0]; rfl
          clear HL
          go_upto_region 13 with (first | (go_at_call 13; (with_reducible refine (D1.out _).mono ?_); rintro e w7 ⟨rfl, hb7⟩) | (go_at_call 12; (with_reducible refine (N.out _ _).mono ?_); rintro e w8 ⟨rfl, rfl⟩))
          replace HRA := Lib.hid ((hb7.block _ (lt_of_block HRA.out)).trans HRA.out)
          replace HRB := Lib.hid ((hb7.block _ (lt_of_block HRB.out)).trans HRB.out)
          replace HRC := Lib.hid ((hb7.block _ (lt_of_block HRC.out)).trans HRC.out)
          replace HBW := Lib.hid (HBW.out.trans (hb7.mono HBW.out.size))
          replace ca := (hb7.cell (block_lt_of_cell ca)).trans ca
          have cb := (hb7.cell (block_lt_of_cell CB.out)).trans CB.out
          have cc := (hb7.cell (block_lt_of_cell CC.out)).trans CC.out
          clear hb7 CB CC
          have xa := Lw.cell ca
          have xb := Lw.cell cb
          have xc := Lw.cell cc
          refine wp_region_lw (by kernel_rfl) (by kernel_rfl) ?_
          repeat (go_big_quiet_step (first | exact rfl | (go_at_call 13; (first | with_reducible exact lw_call (D2.out _) | with_reducible exact lw_call (D3.out _) | with_reducible exact lw_call (D4.out _))) | (go_at_call 12; with_reducible exact lw_same (N.out _ _))))
          refine wpQuiet_nil ?_
          rintro ⟨w9, hb9⟩
          dsimp only
          clear xa xb xc ca cb cc
          replace HRA := Lib.hid ((hb9.block _ (lt_of_block HRA.out)).trans HRA.out)
          replace HRB := Lib.hid ((hb9.block _ (lt_of_block HRB.out)).trans HRB.out)
          replace HRC := Lib.hid ((hb9.block _ (lt_of_block HRC.out)).trans HRC.out)
          replace HBW := Lib.hid (HBW.out.trans (hb9.mono HBW.out.size))
          clear hb9
          generalize (hi ++ ⟨#[48]⟩ : ByteArray) = h9
          have hwk := HWK2.out
          have HK8 := Lib.hid hk8
          clear zl zh zn hz hk8
          go_wp2_with fail
          have hk8 := HK8.out
          have hk := HK.out
          go_roundw
          case rel => exact ⟨k + 1, by omega, by go_num, HRA.out, HRB.out, HRC.out, HBW.out⟩
          case measure => simp [intOf]; omega
      ·
        have hz : (e == 0) = false := by rw [HL.out]; rw [decide_eq_false hx0]; rfl
        clear HL
        go_upto_region 13 with (first | (go_at_call 13; (with_reducible refine (D1.out _).mono ?_); rintro e w7 ⟨rfl, hb7⟩) | (go_at_call 12; (with_reducible refine (N.out _ _).mono ?_); rintro e w8 ⟨rfl, rfl⟩))
        replace HRA := Lib.hid ((hb7.block _ (lt_of_block HRA.out)).trans HRA.out)
        replace HRB := Lib.hid ((hb7.block _ (lt_of_block HRB.out)).trans HRB.out)
        replace HRC := Lib.hid ((hb7.block _ (lt_of_block HRC.out)).trans HRC.out)
        replace HBW := Lib.hid (HBW.out.trans (hb7.mono HBW.out.size))
        replace ca := (hb7.cell (block_lt_of_cell ca)).trans ca
        have cb := (hb7.cell (block_lt_of_cell CB.out)).trans CB.out
        have cc := (hb7.cell (block_lt_of_cell CC.out)).trans CC.out
        clear hb7 CB CC
        have xa := Lw.cell ca
        have xb := Lw.cell cb
        have xc := Lw.cell cc
        refine wp_region_lw (by kernel_rfl) (by kernel_rfl) ?_
        repeat (go_big_quiet_step (first | exact rfl | (go_at_call 13; (first | with_reducible exact lw_call (D2.out _) | with_reducible exact lw_call (D3.out _) | with_reducible exact lw_call (D4.out _))) | (go_at_call 12; with_reducible exact lw_same (N.out _ _))))
        refine wpQuiet_nil ?_
        rintro ⟨w9, hb9⟩
        dsimp only
        clear xa xb xc ca cb cc
        replace HRA := Lib.hid ((hb9.block _ (lt_of_block HRA.out)).trans HRA.out)
        replace HRB := Lib.hid ((hb9.block _ (lt_of_block HRB.out)).trans HRB.out)
        replace HRC := Lib.hid ((hb9.block _ (lt_of_block HRC.out)).trans HRC.out)
        replace HBW := Lib.hid (HBW.out.trans (hb9.mono HBW.out.size))
        clear hb9
        generalize (hi ++ ⟨#[48]⟩ : ByteArray) = h9
        have hwk := HWK2.out
        have HK8 := Lib.hid hk8
        clear zl zh zn hz hk8
        go_wp2_with fail
        have hk8 := HK8.out
        have hk := HK.out
        go_roundw
        case rel => exact ⟨k + 1, by omega, by go_num, HRA.out, HRB.out, HRC.out, HBW.out⟩
        case measure => simp [intOf]; omega
    · have hk8' : k = 8 := by omega
      subst hk8'
      have HBW := Lib.hid hbw
      clear ra rb rc hbw
      go_wp2_with fail
      go_ret
      exact ⟨rfl, HBW.out⟩
end Go.Proofs.YtlhcejbimlilaaaGreatDoor
