/- digits: four hexadecimal digits of a number under 128: the program's, the document's. -/
import Derived.Test.YthloijpnbljpeaaUtfC
import Derived.Laws.Concat
import Derived.Outline
set_option linter.unusedVariables false
set_option linter.unusedSimpArgs false
namespace Go.Tk
open Go Go.RowKit
def hx (k : Int) : UInt8 := UInt8.ofNat (if k < 10 then 48 + k else 55 + k).toNat
/-- Four digits of a number under 128. -/
def digB (r : Int) : List UInt8 := [48, 48, hx (r / 16), hx (r % 16)]
end Go.Tk
namespace Go.Proofs.Ythloijpnbljpeaa
open Go.RowKit Go.Tk
/-- The sixteen digits. -/
abbrev hexC : ByteArray := ⟨#[48, 49, 50, 51, 52, 53, 54, 55, 56, 57, 65, 66, 67, 68, 69, 70]⟩
theorem hex_two : ∀ a b : Fin 16, (⟨#[hexC[0], hexC[0], hexC[a.val], hexC[b.val]]⟩ : ByteArray) = ⟨[48, 48, hx (a.val : Int), hx (b.val : Int)].toArray⟩ := by decide +kernel
theorem hex_cat : ∀ r : Fin 128, (hexC.extract ((r.val : Int) / 16 / 16 / 16 % 16).toNat ((r.val : Int) / 16 / 16 / 16 % 16 + 1).toNat ++ (hexC.extract ((r.val : Int) / 16 / 16 % 16).toNat ((r.val : Int) / 16 / 16 % 16 + 1).toNat ++ (hexC.extract ((r.val : Int) / 16 % 16).toNat ((r.val : Int) / 16 % 16 + 1).toNat ++ (hexC.extract ((r.val : Int) % 16).toNat ((r.val : Int) % 16 + 1).toNat ++ ⟨#[]⟩)))) = ⟨(digB (r.val : Int)).toArray⟩ := by decide +kernel
theorem digs_row (w1 : World) (g : Nat) (t : TypeId) (z : Value) (h : w1.heap[g]? = some (.cells #[z, z, z, z] t (0, 0))) (v3 v2 v1 v0 : Value) :
    ((((w1.setCell ⟨g, 3, none⟩ v3).setCell ⟨g, 2, none⟩ v2).setCell ⟨g, 1, none⟩ v1).setCell ⟨g, 0, none⟩ v0).heap[g]? = some (.cells #[v0, v1, v2, v3] t (0, 0)) :=
  heap_setCell_same _ _ 0 _ _ _ (heap_setCell_same _ _ 1 _ _ _ (heap_setCell_same _ _ 2 _ _ _ (heap_setCell_same _ _ 3 _ _ _ h)))
theorem conv4 (g : Nat) (x0 x1 x2 x3 : UInt8) (w : World) (h : w.heap[g]? = some (.cells #[.int .u8 x0.toNat, .int .u8 x1.toNat, .int .u8 x2.toNat, .int .u8 x3.toNat] 5 (0, 0))) :
    (convert 22 9 (.slice (some ⟨g, 0, none⟩) 4 4)).run Try.prog w = .ok (.string ⟨#[x0, x1, x2, x3]⟩) w := by
  refine SlI.bytes (b := [x0, x1, x2, x3]) Try.underlying22 Try.underlying5 Try.underlying9 ⟨rfl, Nat.le_refl _, by decide, fun i hi => ⟨g, 0, rfl, ?_⟩⟩
  have hi' : i = 0 ∨ i = 1 ∨ i = 2 ∨ i = 3 := by simp at hi; omega
  rcases hi' with rfl | rfl | rfl | rfl <;> simp [World.cell?, h, nums]
theorem and15 : ∀ c : Fin 128, bits .and .u64 (c.val : Int) 15 = (c.val : Int) % 16 := by decide +kernel
theorem and15' (r : Int) (h0 : 0 ≤ r) (h1 : r < 128) : bits .and .u64 r 15 = r % 16 := by
  have := and15 ⟨r.toNat, by omega⟩
  simp only [Int.toNat_of_nonneg h0] at this
  exact this
set_option maxRecDepth 100000 in
set_option maxHeartbeats 4000000 in
theorem udigits_calls (r : Int) (w : World) (h0 : 0 ≤ r) (h1 : r < 128) :
    Calls Try.prog 35 #[.int .u64 r, .int .i64 4] w fun e w' => e = .returned (.string ⟨(digB r).toArray⟩) ∧ Below w.heap.size w w' := by
  go_enter Try.func35, Try.ntmps35
  go_wp2_with (at_make; refine wpList_mkJ rfl _ _ _ rfl 5 (.int .u8 0) 1 Try.underlying22 Try.infoU8 rfl _ _ _ _ 4 rfl rfl rfl rfl (by omega) (by omega) ?_; intro w1 hw1 hb1; (have hr1 : w1.heap[w.heap.size]? = some (.cells #[.int .u8 0, .int .u8 0, .int .u8 0, .int .u8 0] 5 (0, 0)) := hw1); (have hB1 : Below w.heap.size w w1 := (Below.refl _ _).grown hb1 (Nat.le_refl _) (fun k e => by cases e)); clear hw1 hb1)
  have c0 : w1.cell? ⟨w.heap.size, 0, none⟩ = some (.int .u8 0) := by simp [World.cell?, hr1]
  have c1 : w1.cell? ⟨w.heap.size, 1, none⟩ = some (.int .u8 0) := by simp [World.cell?, hr1]
  have c2 : w1.cell? ⟨w.heap.size, 2, none⟩ = some (.int .u8 0) := by simp [World.cell?, hr1]
  have c3 : w1.cell? ⟨w.heap.size, 3, none⟩ = some (.int .u8 0) := by simp [World.cell?, hr1]
  have f0 := frozen_of_row w1 w.heap.size 0 _ _ hr1
  have f1 := frozen_of_row w1 w.heap.size 1 _ _ hr1
  have f2 := frozen_of_row w1 w.heap.size 2 _ _ hr1
  have f3 := frozen_of_row w1 w.heap.size 3 _ _ hr1
  have e0 : ∃ b, bits .and .u64 r 15 = b ∧ b = r % 16 := ⟨_, and15' r h0 h1, rfl⟩
  have e1 : ∃ a, bits .and .u64 (r / 16) 15 = a ∧ a = r / 16 := ⟨_, (and15' (r / 16) (by omega) (by omega)).trans (by omega), rfl⟩
  have e2 : bits .and .u64 (r / 256) 15 = 0 := (and15' (r / 256) (by omega) (by omega)).trans (by omega)
  have e3 : bits .and .u64 (r / 4096) 15 = 0 := (and15' (r / 4096) (by omega) (by omega)).trans (by omega)
  obtain ⟨b, e0, eb⟩ := e0
  obtain ⟨a, e1, ea⟩ := e1
  have hb : 0 ≤ b ∧ b < 16 := by omega
  have ha : 0 ≤ a ∧ a < 16 := by omega
  have EB := Lib.hid eb
  have EA := Lib.hid ea
  have H0 := Lib.hid h0
  have H1 := Lib.hid h1
  clear eb ea h0 h1
  have HR1 := Lib.hid hr1
  have HB1 := Lib.hid hB1
  clear hr1 hB1
  refine wp_loop_rounds 5 ?_
  rw [rounds_succ]
  go_wp2
  rw [rounds_succ]
  go_wp2
  rw [rounds_succ]
  go_wp2
  rw [rounds_succ]
  go_wp2
  rw [rounds_succ]
  go_wp2
  rw [conv4 w.heap.size _ _ _ _ _ (digs_row w1 w.heap.size _ _ HR1.out _ _ _ _)]
  simp only [Result.andThen]
  rw [Oper.upon_value]
  go_wp2
  go_ret
  refine ⟨?_, ?_⟩
  · have h := hex_two ⟨a.toNat, by omega⟩ ⟨b.toNat, by omega⟩
    simp only [Int.toNat_of_nonneg ha.1, Int.toNat_of_nonneg hb.1] at h
    have e : digB r = [48, 48, hx a, hx b] := by rw [EA.out, EB.out]; rfl
    rw [e, ← h]
    rfl
  · exact (((HB1.out.setCell (p := ⟨w.heap.size, 3, none⟩) (Nat.le_refl _) _).setCell (p := ⟨w.heap.size, 2, none⟩) (Nat.le_refl _) _).setCell (p := ⟨w.heap.size, 1, none⟩) (Nat.le_refl _) _).setCell (p := ⟨w.heap.size, 0, none⟩) (Nat.le_refl _) _
end Go.Proofs.Ythloijpnbljpeaa
