/- spoilt, Open of right bytes. -/
import Derived.Test.YtpphjiialgmidaaRkZ
import Derived.Deep.CutBlock
set_option linter.unusedVariables false
set_option linter.unusedSimpArgs false
namespace Go.Proofs.Ytpphjiialgmidaa
open Go.RowKit Go.Tk
theorem drewN_add' (w : World) (a b : Nat) : (w.drewN a).drewN b = w.drewN (a + b) := by simp [World.drewN, Nat.add_assoc]
theorem VecAt.below {w w' gv a c bs n m} (h : VecAt w gv a c bs n m) (hb : Below w.heap.size w w') : VecAt w' gv a c bs n m := ⟨(hb.block gv (lt_of_block h.row)).trans h.row, h.sl.keep hb, h.fit, h.mn, h.nN⟩
set_option maxRecDepth 100000 in
set_option maxHeartbeats 1000000 in
theorem spoilt_wh (w : World) (gv : Nat) (a : Option Addr) (c : Nat) (d : List UInt8) (N : Nat) (hl : d.length = (N + 7) / 8) (hp : padB d N = true) (hv : VecAt w gv a c (whB d N) N (cntB d N)) (ad : Option Addr) (nd cd : Nat) (hs : SlI .u8 w ad nd cd (nums d)) :
    Calls Try.prog 50 #[.pointer (some ⟨gv, 0, none⟩), .slice ad nd cd] w fun e w' => e = .returned (.int .i64 (-1)) ∧ Below w.heap.size w w' := by
  have hnd : nd = d.length := by have := hs.len; rw [nums_len] at this; exact this.symm
  have hN := hv.nN
  have HV := Lib.hid hv
  have HS := Lib.hid hs
  have HL := Lib.hid hl
  have HP := Lib.hid hp
  have HND := Lib.hid hnd
  clear hv hs hl hp hnd
  go_enter Try.func50, Try.ntmps50
  go_upto_region 2 with fail
  have hb1 : Below w.heap.size w (w.alloc (.cells #[.pointer (some ⟨gv, 0, none⟩)] 37)) := (Below.refl _ _).alloc (Nat.le_refl _) _
  have hb2 : Below w.heap.size w ((w.alloc (.cells #[.pointer (some ⟨gv, 0, none⟩)] 37)).alloc (.cells #[.int .i64 (-1)] 3)) := hb1.alloc (by simp) _
  have r1 : ((w.alloc (.cells #[.pointer (some ⟨gv, 0, none⟩)] 37)).alloc (.cells #[.int .i64 (-1)] 3)).heap[w.heap.size]? = some (.cells #[.pointer (some ⟨gv, 0, none⟩)] 37 (0, 0)) := (Below.heap_alloc _ _ _ (by simp)).trans (heap_alloc_new _ _)
  have r2 : ((w.alloc (.cells #[.pointer (some ⟨gv, 0, none⟩)] 37)).alloc (.cells #[.int .i64 (-1)] 3)).heap[w.heap.size + 1]? = some (.cells #[.int .i64 (-1)] 3 (0, 0)) := by
    have := heap_alloc_new (w.alloc (.cells #[.pointer (some ⟨gv, 0, none⟩)] 37)) (.cells #[.int .i64 (-1)] 3)
    simpa using this
  have hv2 := HV.out.below hb2
  have hs2 := HS.out.keep hb2
  generalize (w.alloc (.cells #[.pointer (some ⟨gv, 0, none⟩)] 37)).alloc (.cells #[.int .i64 (-1)] 3) = w2 at hb2 r1 r2 hv2 hs2 ⊢
  have q1 : w2.cell? ⟨w.heap.size, 0, none⟩ = some (.pointer (some ⟨gv, 0, none⟩)) := cell_of_row w2 _ 0 _ _ _ r1
  have q2 : w2.cell? ⟨w.heap.size + 1, 0, none⟩ = some (.int .i64 (-1)) := cell_of_row w2 _ 0 _ _ _ r2
  have k1 := hv2.k1
  have hdir := directory_calls 64 (.pointer (some ⟨w.heap.size, 0, none⟩)) (.pointer (some ⟨w.heap.size + 1, 0, none⟩)) cf_spoilt w2 ad nd cd d N HND.out HL.out HP.out hN (fun w' _ => ∃ k, w' = w2.drewN k) ⟨0, rfl⟩
    (fun w' L h => by obtain ⟨k, rfl⟩ := h; exact hs2.drewN k)
    (fun w' L part i v h ht => by
      obtain ⟨k, rfl⟩ := h
      exact (tell_wh (w2.drewN k) gv w.heap.size (w.heap.size + 1) a c d N HL.out (hv2.drewN k) q1 part i v ht).mono fun e w'' ⟨h1, q, h2⟩ => ⟨h1, k + q, by rw [h2, drewN_add']⟩)
  have hmf : ∀ (fn : Fn) (first cap : Array Value) (w : World), (Instr.makeFunc fn first cap).run Try.prog w = .ok (.func fn first cap) w := fun _ _ _ _ => rfl
  have HD := Lib.hid hdir
  have HB2 := Lib.hid hb2
  clear hdir hb1 hb2 r1 r2 hv2 hs2
  go_wp2_with (go_at_call 43; (with_reducible refine HD.out.mono ?_); rintro e w8 ⟨rfl, L, ⟨k, rfl⟩, _⟩)
  go_ret
  exact ⟨rfl, below_drewN HB2.out _⟩
end Go.Proofs.Ytpphjiialgmidaa
