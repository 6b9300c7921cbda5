/- The document's guess. -/
import Derived.Test.YtlhcejbimlilaaaGreatDoorUtfN
import Derived.Deep.RegionHeld3
import Derived.Deep.RegionWith
import Derived.Deep.DrawnRows
set_option linter.unusedVariables false
set_option linter.unusedSimpArgs false
namespace Go.Tk
open Go Go.RowKit
def bndG (m : Nat) : Int := if m = 1 then 300 else if m = 2 then 20000 else if m = 3 then 1300000 else 84000000
theorem bndG_le (m : Nat) : bndG m ≤ 84000000 := by unfold bndG; split; · omega
                                                    split; · omega
                                                    split <;> omega
theorem bndG_step {m : Nat} {r c : Int} (h1 : 1 ≤ m) (h2 : m < 4) (h : r < bndG m) (h' : -bndG m < r) (c0 : 0 ≤ c) (hc : c < 256) : r * 64 + c - 128 < bndG (m + 1) ∧ -bndG (m + 1) < r * 64 + c - 128 := by
  obtain rfl | rfl | rfl : m = 1 ∨ m = 2 ∨ m = 3 := by omega
  all_goals simp [bndG] at h h' ⊢; omega
theorem SlI.bytes {P : Program} {w : World} {src e dst : TypeId} {a : Option Addr} {c : Nat} {b : List UInt8} (hs : P.underlying src = some (.slice e)) (he : P.underlying e = some (.int .u8)) (hd : P.underlying dst = some .string)
    (h : SlI .u8 w a b.length c (nums b)) : (convert src dst (.slice a b.length c)).run P w = .ok (.string ⟨b.toArray⟩) w := by
  by_cases hb : b = []
  · subst hb
    cases a with
    | none => exact run_convert_bytes_nil w src e hs he 0 c dst hd
    | some x => exact run_convert_bytes_back w src dst e x c [] hs he hd (fun j hj => by simp at hj)
  · have h0 : 0 < b.length := List.length_pos_iff.2 hb
    obtain ⟨g, o, rfl, _⟩ := h.cell 0 h0
    refine run_convert_bytes_back w src dst e ⟨g, o, none⟩ c b hs he hd fun j hj => ?_
    obtain ⟨g', o', he', hc⟩ := h.cell j hj
    obtain ⟨rfl, rfl⟩ : g = g' ∧ o = o' := by simpa using he'
    rw [Addr.add_lit, hc, nums_getD b j hj]
theorem SlI.len0 {k : IntKind} {w : World} {a : Option Addr} {n c : Nat} {b : List UInt8} (h : SlI k w a n c (nums b)) : n = b.length := by rw [← h.len, nums_len]
theorem gnum_one {b : List UInt8} (h : 1 ≤ b.length) : gnum b = gFold (b.drop 1) (((b[0]'h).toNat : Int) - gBase b.length) := by
  cases b with
  | nil => simp at h
  | cons x t => simp [gnum]
theorem gFold_step {b : List UInt8} {m : Nat} (h : m < b.length) (r : Int) : gFold (b.drop m) r = gFold (b.drop (m + 1)) (r * 64 + ((b[m]).toNat : Int) - 128) := by
  rw [List.drop_eq_getElem_cons h]; rfl
end Go.Tk
namespace Go.Proofs.YtlhcejbimlilaaaGreatDoor
open Go.RowKit Go.Tk
/-- guess's table. -/
def gTab : Array Value := #[.int .i64 0, .int .i64 0, .int .i64 192, .int .i64 224, .int .i64 240]
end Go.Proofs.YtlhcejbimlilaaaGreatDoor
